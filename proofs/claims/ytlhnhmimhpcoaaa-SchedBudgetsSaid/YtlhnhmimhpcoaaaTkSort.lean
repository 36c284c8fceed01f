/- The contracts of slices.SortStableFunc at less than 20 ints, at a row that the call made, and of cmp.Compare. The conditions: the row is the caller's own; the comparison leaves it alone. -/
import Derived.Test.YtlhnhmimhpcoaaaIsPure
import Derived.Test.YtlhnhmimhpcoaaaTkPure
import Derived.Test.YtlhnhmimhpcoaaaIrow
import Derived.BigRegion
namespace Go.Proofs.Ytlhnhmimhpcoaaa
open Go.RowKit
set_option linter.unusedSimpArgs false
set_option linter.unusedVariables false
def cmpI (x y : Int) : Int := if x < y then -1 else if y < x then 1 else 0
theorem cmpI_lt (x y : Int) : decide (cmpI x y < 0) = decide (x < y) := by unfold cmpI; (repeat' split) <;> simp <;> omega
theorem nan_any (x : Int) (w : World) : Calls Try.prog 133 #[.int .i64 x] w fun e w' => e = .returned (.bool false) ∧ w = w' := by
  go_enter Try.func133, Try.ntmps133
  go_wp2
  go_ret
  exact ⟨ret_bool (by simp), rfl⟩
theorem compare_any (x y : Int) (w : World) : Calls Try.prog 125 #[.int .i64 x, .int .i64 y] w fun e w' => e = .returned (.int .i64 (cmpI x y)) ∧ w = w' := by
  by_cases h1 : x < y
  · rw [show cmpI x y = -1 from if_pos h1]
    go_enter Try.func125, Try.ntmps125
    go_wp2_with (go_at_call 133; refine (nan_any _ _).mono ?_; rintro e w1 ⟨rfl, rfl⟩)
    go_ret
    exact ⟨rfl, rfl⟩
  · by_cases h2 : y < x
    · rw [show cmpI x y = 1 by unfold cmpI; rw [if_neg h1, if_pos h2]]
      have h1' : decide (x < y) = false := by simpa using h1
      go_enter Try.func125, Try.ntmps125
      go_wp2_with (go_at_call 133; refine (nan_any _ _).mono ?_; rintro e w1 ⟨rfl, rfl⟩)
      go_ret
      exact ⟨rfl, rfl⟩
    · rw [show cmpI x y = 0 by unfold cmpI; rw [if_neg h1, if_neg h2]]
      have h1' : decide (x < y) = false := by simpa using h1
      have h2' : decide (y < x) = false := by simpa using h2
      go_enter Try.func125, Try.ntmps125
      go_wp2_with (go_at_call 133; refine (nan_any _ _).mono ?_; rintro e w1 ⟨rfl, rfl⟩)
      go_ret
      exact ⟨rfl, rfl⟩
def ltOf (cf : Int → Int → Int) (x y : Int) : Bool := decide (cf x y < 0)
/-- what is asked of a comparison: at the elements, in every world that the sort passes through -/
structure CmpOn (g : Nat) (cb : Array Value) (cf : Int → Int → Int) (b : Nat) (xs : List Int) (w : World) : Prop where
  eg : ∀ args w, (callFunc g args).run Try.prog w = .ok (.enter g args) w
  gives : ∀ (wr : World) (x y : Int), w.grownBy wr (some b) → x ∈ xs → y ∈ xs → Calls Try.prog g (#[.int .i64 x, .int .i64 y] ++ cb) wr fun e w' => e = .returned (.int .i64 (cf x y)) ∧ Below wr.heap.size wr w'
theorem grownB {w w1 w2 : World} {r : Option Nat} (h : w.grownBy w1 r) (hb : Below w1.heap.size w1 w2) : w.grownBy w2 r := h.trans ⟨hb.os, hb.tape, hb.output, hb.size, fun j hj _ => hb.block j hj⟩
theorem CmpOn.later {g cb cf b xs} {w w1 : World} (h : CmpOn g cb cf b xs w) (hg : w.grownBy w1 (some b)) : CmpOn g cb cf b xs w1 := ⟨h.eg, fun wr x y h1 => h.gives wr x y (hg.trans h1)⟩
theorem CmpOn.sub {g cb cf b xs ys} {w : World} (h : CmpOn g cb cf b xs w) (hs : ∀ x ∈ ys, x ∈ xs) : CmpOn g cb cf b ys w := ⟨h.eg, fun wr x y h1 hx hy => h.gives wr x y h1 (hs x hx) (hs y hy)⟩
theorem enc1_get (xs : List Int) (j : Nat) : (xs.flatMap enc1)[j]? = (xs[j]?).map (Value.int .i64) := by rw [flat_enc1, List.getElem?_map]
theorem setG {a w : World} {b : Nat} (h : a.grownBy w (some b)) (i : Nat) (v : Value) : a.grownBy (w.setCell ⟨b, i, none⟩ v) (some b) :=
  h.trans ⟨rfl, rfl, rfl, by simp [World.setCell], fun k _ hk => Below.heap_setCell _ _ _ _ (fun e => hk (by simp [e]))⟩
theorem drewG {a w : World} {r : Option Nat} (h : a.grownBy w r) : a.grownBy w.drew r := ⟨h.os, h.tape, h.output, h.size, h.block⟩
theorem swap_row (pre p r : List Int) (y x : Int) (j : Nat) (hj : j = pre.length + p.length) : ((pre ++ (p ++ [y] ++ x :: r)).set (j + 1) y).set j x = pre ++ (p ++ (x :: (y :: r))) := by
  subst hj
  rw [show pre ++ (p ++ [y] ++ x :: r) = (pre ++ p) ++ (y :: x :: r) by simp, List.set_append_right _ _ (by simp), List.set_append_right _ _ (by simp)]
  simp [show pre.length + p.length + 1 - (pre.length + p.length) = 1 by omega]
def SortP (B : Nat) (w : World) (b n c : Nat) (xs : List Int) (e : Ending) (w' : World) : Prop :=
  e = .returned (.tuple #[]) ∧ w'.ownsRow B 3 1 (.slice (some ⟨b, 0, none⟩) n c) n (xs.flatMap enc1) ∧ w.grownBy w' (some b)
set_option maxRecDepth 100000 in
set_option maxHeartbeats 4000000 in
theorem insertion_any (g : Nat) (cb : Array Value) (cf : Int → Int → Int) (B b n c a m : Nat) (pre xs post : List Int) (w : World) (hn : n ≤ 1000) (hO : w.ownsRow B 3 1 (.slice (some ⟨b, 0, none⟩) n c) n ((pre ++ (xs ++ post)).flatMap enc1))
    (ha : pre.length = a) (hm : a + xs.length = m) (hC : CmpOn g cb cf b xs w) :
    Calls Try.prog 135 #[.slice (some ⟨b, 0, none⟩) n c, .int .i64 a, .int .i64 m, .func (.func g) #[] cb] w (SortP B w b n c (pre ++ (isortL (ltOf cf) xs ++ post))) := by
  have hlen : (pre ++ (xs ++ post)).length = n := (ownsI_rd hO).length
  have hmn : m ≤ n := by simp at hlen; omega
  have han : a ≤ n := by simp at hlen; omega
  have eg := hC.eg
  have HC := Lib.hid hC
  have HO0 := Lib.hid hO
  have HA := Lib.hid ha; have HM := Lib.hid hm; have HLN := Lib.hid hlen
  clear hO ha hm hlen hC
  go_enter Try.func135, Try.ntmps135
  go_wp2
  go_loopw [8] (fun v wr => ∃ (i : Nat) (S : List Int), v = .int .i64 ((a + i : Nat) : Int) ∧ 1 ≤ i ∧ a + i ≤ max (a + 1) m ∧ wr.ownsRow B 3 1 (.slice (some ⟨b, 0, none⟩) n c) n ((pre ++ (S ++ (xs.drop i ++ post))).flatMap enc1) ∧ S = isortL (ltOf cf) (xs.take i) ∧ w.grownBy wr (some b)) (fun v _ => m - (intOf v).toNat)
  case atStart =>
    refine ⟨1, isortL (ltOf cf) (xs.take 1), by go_num, by omega, by omega, ?_, rfl, World.grownBy.refl _ _⟩
    have : isortL (ltOf cf) (xs.take 1) = xs.take 1 := by cases xs <;> rfl
    rw [this, ← List.append_assoc (xs.take 1), List.take_append_drop]
    exact HO0.out
  case round =>
    obtain ⟨i, S, rfl, hi1, him, hO, hS, hG⟩ := hrel
    have HO := Lib.hid hO; have HS := Lib.hid hS; have HG := Lib.hid hG
    clear hO hS hG
    by_cases hlt : a + i < m
    · have hlt' : ((a + i : Nat) : Int) < (m : Int) := by omega
      obtain ⟨x, hx⟩ : ∃ x, xs[i]? = some x := ⟨_, List.getElem?_eq_getElem (by have := HM.out; omega)⟩
      have hxd : xs.drop i = x :: xs.drop (i + 1) := by obtain ⟨h1, h2⟩ := List.getElem?_eq_some_iff.1 hx; rw [List.drop_eq_getElem_cons h1, h2]
      have hsl : S.length = i := by rw [HS.out, (isort_perm _ _).length_eq, List.length_take]; have := HM.out; omega
      have HX := Lib.hid hx; have HSL := Lib.hid hsl
      have HTK : Hid (xs.take (i + 1) = xs.take i ++ [x]) := Lib.hid (by rw [List.take_add_one, hx]; rfl)
      have HOi : Hid (wr.ownsRow B 3 1 (.slice (some ⟨b, 0, none⟩) n c) n ((pre ++ (S ++ (x :: ([] ++ (xs.drop (i + 1) ++ post))))).flatMap enc1)) := Lib.hid (by have := HO.out; rw [hxd] at this; exact this)
      clear hx hxd hsl
      obtain ⟨wo, rfl⟩ : ∃ wo : World, wo = wr := ⟨_, rfl⟩
      go_wp2
      go_loopw [9] (fun v wr => ∃ (j : Nat) (p q : List Int), v = .int .i64 (j : Nat) ∧ j = a + p.length ∧ p ++ q = S ∧ (∀ y ∈ q, ltOf cf x y = true) ∧ wr.ownsRow B 3 1 (.slice (some ⟨b, 0, none⟩) n c) n ((pre ++ (p ++ (x :: (q ++ (xs.drop (i + 1) ++ post))))).flatMap enc1) ∧ wo.grownBy wr (some b)) (fun v _ => (intOf v).toNat)
      case atStart => exact ⟨a + i, S, [], rfl, by rw [HSL.out], by simp, by simp, HOi.out, World.grownBy.refl _ _⟩
      case round =>
        obtain ⟨j, p, q, rfl, hj, hpq, hq, hOj, hGj⟩ := hrel
        have HPQ := Lib.hid hpq; have HQ := Lib.hid hq; have HOJ := Lib.hid hOj; have HGJ := Lib.hid hGj; have HJ := Lib.hid hj
        have hjm : j < m := by have := congrArg List.length hpq; rw [HSL.out] at this; simp at this; omega
        clear hpq hq hOj hGj
        rcases List.eq_nil_or_concat p with hp | ⟨p', y, hp⟩
        · have hja : j = a := by rw [hj, hp]; rfl
          subst hja
          have HP := Lib.hid hp
          clear hj hp
          have hd : decide ((j : Int) > (j : Int)) = false := by simp
          go_wp2_with (refine wp_region_later_lit (by kernel_rfl) (by kernel_rfl) ?_; (repeat (go_big_quiet_step (fail))); refine wpQuiet_nil ?_; intro w3 hb3)
          go_roundw
          case rel =>
            refine ⟨i + 1, p ++ x :: q, by go_num, by omega, by omega, ?_, ?_, grownB (HG.out.trans HGJ.out) hb3⟩
            · have := owns_ext HOJ.out hb3
              rw [List.append_assoc p, List.cons_append]
              exact this
            · rw [HTK.out, isort_snoc, ← HS.out, ← HPQ.out, insP_eq HQ.out (by rw [HP.out]; simp)]
          case measure => simp [intOf]; omega
        · rw [List.concat_eq_append] at hp
          have HP := Lib.hid hp
          obtain ⟨jp, rfl⟩ : ∃ jp, j = jp + 1 := ⟨a + p'.length, by rw [hj, hp]; simp; omega⟩
          have hjp : jp = a + p'.length := by rw [hp] at hj; simp at hj; omega
          have HJP := Lib.hid hjp
          have hja : (a : Int) < (jp : Int) + 1 := by omega
          have hxm : x ∈ xs := List.mem_of_getElem? HX.out
          have hym : y ∈ xs := by
            have : y ∈ S := by rw [← HPQ.out, HP.out]; simp
            rw [HS.out, (isort_perm _ _).mem_iff] at this
            exact List.mem_of_mem_take this
          have HXM := Lib.hid hxm; have HYM := Lib.hid hym
          have e1 : (pre ++ (p ++ (x :: (q ++ (xs.drop (i + 1) ++ post)))))[jp + 1]? = some x := by
            rw [HP.out, ← List.append_assoc, List.getElem?_append_right (by simp; have := HA.out; omega)]
            have : jp + 1 - (pre ++ (p' ++ [y])).length = 0 := by simp; have := HA.out; omega
            rw [this]; rfl
          have e2 : (pre ++ (p ++ (x :: (q ++ (xs.drop (i + 1) ++ post)))))[jp]? = some y := by
            rw [HP.out, List.append_assoc, ← List.append_assoc, List.getElem?_append_right (by simp; have := HA.out; omega)]
            have : jp - (pre ++ p').length = 0 := by simp; have := HA.out; omega
            rw [this]; rfl
          obtain ⟨x', hx', c1, f1, hbw⟩ := ownsI_at HOJ.out (jp + 1) (by omega)
          obtain ⟨y', hy', c2, f2, _⟩ := ownsI_at HOJ.out jp (by omega)
          rw [e1] at hx'; rw [e2] at hy'
          obtain rfl : x = x' := by simpa using hx'
          obtain rfl : y = y' := by simpa using hy'
          have HC1 := Lib.hid c1; have HC2 := Lib.hid c2; have HF1 := Lib.hid f1; have HF2 := Lib.hid f2
          clear e1 e2 hx' hy' hj hp hjp hxm hym
          by_cases hl : cf x y < 0
          · have HL := Lib.hid hl
            go_wp2_with (refine wp_region_later_lit (by kernel_rfl) (by kernel_rfl) ?_; (repeat (go_big_quiet_step ((go_at_fn g; exact later_of (HC.out.gives _ x y (grownB (HG.out.trans HGJ.out) (After.below _)) HXM.out HYM.out))))); refine wpQuiet_nil ?_; intro w3 hb3)
            clear f1 f2 c1 c2
            have c1 := (hb3.cell (p := ⟨b, jp + 1, none⟩) hbw).trans HC1.out
            have c2 := (hb3.cell (p := ⟨b, jp, none⟩) hbw).trans HC2.out
            have f1 := (hb3.frozen (p := ⟨b, jp + 1, none⟩) hbw).trans HF1.out
            have f2 := (hb3.frozen (p := ⟨b, jp, none⟩) hbw).trans HF2.out
            go_big_region
            go_wp2
            go_roundw
            case rel =>
              refine ⟨jp, p', y :: q, rfl, HJP.out, by rw [← HPQ.out, HP.out]; simp, ?_, ?_, ?_⟩
              · intro z hz
                rcases List.mem_cons.1 hz with rfl | hz
                · exact decide_eq_true HL.out
                · exact HQ.out z hz
              · have h5 := (ownsI_set (ownsI_set (owns_ext HOJ.out hb3) (jp + 1) y) jp x).drew
                rw [HP.out, swap_row pre p' (q ++ (List.drop (i + 1) xs ++ post)) y x jp (by rw [HA.out]; exact HJP.out)] at h5
                exact h5
              · exact drewG (setG (setG (grownB HGJ.out hb3) _ _) _ _)
            case measure => simp [intOf]
          · have hl' : decide (cf x y < 0) = false := by simpa using hl
            have HL := Lib.hid hl
            go_wp2_with (refine wp_region_later_lit (by kernel_rfl) (by kernel_rfl) ?_; (repeat (go_big_quiet_step ((go_at_fn g; exact later_of (HC.out.gives _ x y (grownB (HG.out.trans HGJ.out) (After.below _)) HXM.out HYM.out))))); refine wpQuiet_nil ?_; intro w3 hb3)
            go_roundw
            case rel =>
              refine ⟨i + 1, p ++ x :: q, by go_num, by omega, by omega, ?_, ?_, grownB (HG.out.trans HGJ.out) hb3⟩
              · have := owns_ext HOJ.out hb3
                rw [List.append_assoc p, List.cons_append]
                exact this
              · rw [HTK.out, isort_snoc, ← HS.out, ← HPQ.out, insP_eq HQ.out (by rw [HP.out]; intro z hz; simp at hz; subst hz; unfold ltOf; exact decide_eq_false HL.out)]
            case measure => simp [intOf]; omega
    · have hlt' : ¬ ((a + i : Nat) : Int) < (m : Int) := by omega
      go_wp2
      go_end0
      refine ⟨rfl, ?_, HG.out⟩
      have hle : xs.length ≤ i := by have := HM.out; omega
      have := HO.out
      rw [HS.out, List.take_of_length_le hle, List.drop_of_length_le hle] at this
      exact this
set_option maxHeartbeats 1000000 in
theorem stable_any (g : Nat) (cb : Array Value) (cf : Int → Int → Int) (B b n c : Nat) (xs : List Int) (w : World) (hn : n < 20) (hO : w.ownsRow B 3 1 (.slice (some ⟨b, 0, none⟩) n c) n (xs.flatMap enc1)) (hC : CmpOn g cb cf b xs w) :
    Calls Try.prog 132 #[.slice (some ⟨b, 0, none⟩) n c, .int .i64 n, .func (.func g) #[] cb] w (SortP B w b n c (isortL (ltOf cf) xs)) := by
  have hlen : xs.length = n := (ownsI_rd hO).length
  have HI : Hid (Calls Try.prog 135 #[.slice (some ⟨b, 0, none⟩) n c, .int .i64 0, .int .i64 n, .func (.func g) #[] cb] w (SortP B w b n c (isortL (ltOf cf) xs))) := by
    have := insertion_any g cb cf B b n c 0 n [] xs [] w (by omega) (by simpa using hO) rfl (by omega) hC
    simp only [List.nil_append, List.append_nil] at this
    exact Lib.hid this
  have h20 : ¬ (20 : Int) ≤ (n : Int) := by omega
  have h21 : ¬ (20 : Int) < (n : Int) := by omega
  have h22 : ¬ 20 ≤ n := by omega
  have h23 : ¬ 20 < n := by omega
  clear hO hC hlen
  go_enter Try.func132, Try.ntmps132
  go_wp2
  go_loopw [7, 8] (fun u v wr => u = .int .i64 0 ∧ v = .int .i64 20 ∧ w = wr) (fun _ _ _ => 0)
  case atStart => exact ⟨rfl, rfl, rfl⟩
  case round =>
    obtain ⟨rfl, rfl, rfl⟩ := hrel
    go_wp2_with (go_at_call 135; refine HI.out.mono ?_; rintro e w1 ⟨rfl, ho, hg⟩; have HO := Lib.hid ho; have HG := Lib.hid hg; clear ho hg)
    go_loopw [6] (fun u wr => u = .int .i64 20 ∧ w1 = wr) (fun _ _ => 0)
    case atStart => exact ⟨rfl, rfl⟩
    case round =>
      obtain ⟨rfl, rfl⟩ := hrel
      go_wp2
      go_end0
      exact ⟨rfl, HO.out, HG.out⟩
theorem sortStable_any (g : Nat) (cb : Array Value) (cf : Int → Int → Int) (B b n c : Nat) (xs : List Int) (w : World) (hn : n < 20) (hO : w.ownsRow B 3 1 (.slice (some ⟨b, 0, none⟩) n c) n (xs.flatMap enc1)) (hC : CmpOn g cb cf b xs w) :
    Calls Try.prog 123 #[.slice (some ⟨b, 0, none⟩) n c, .func (.func g) #[] cb] w (SortP B w b n c (isortL (ltOf cf) xs)) := by
  have HS := Lib.hid (stable_any g cb cf B b n c xs w hn hO hC)
  clear hO hC
  go_enter Try.func123, Try.ntmps123
  go_wp2_with (go_at_call 132; refine HS.out.mono ?_; rintro e w1 ⟨rfl, ho, hg⟩; have HO := Lib.hid ho; have HG := Lib.hid hg; clear ho hg)
  go_end0
  exact ⟨rfl, HO.out, HG.out⟩
end Go.Proofs.Ytlhnhmimhpcoaaa
