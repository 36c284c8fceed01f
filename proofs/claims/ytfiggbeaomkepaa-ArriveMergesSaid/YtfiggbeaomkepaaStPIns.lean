/- The contract of slices.insertionSortCmpFunc at pairs, at a row that the call made. The conditions: the row is the caller's own; the comparison leaves it alone. (Printed by wip/tools/mkstp.py.) -/
import Derived.Test.YtfiggbeaomkepaaStPure
import Derived.Test.YtfiggbeaomkepaaCtSort
import Derived.Test.YtfiggbeaomkepaaFunc
import Derived.Test.YtfiggbeaomkepaaMake
import Derived.BigRegion
namespace Go.Proofs.Ytfiggbeaomkepaa.StP
open Go.RowKit Go.Proofs.Ytfiggbeaomkepaa
set_option linter.unusedSimpArgs false
set_option linter.unusedVariables false
theorem ownsP_rd {B : Nat} {w : World} {xs : List P2} {a : Option Addr} {n c : Nat} (h : w.ownsRow B 61 2 (.slice a n c) n (xs.flatMap enc2)) : Rd w a n 2 (xs.map enc2) := Rd.of_owns enc2_len (by decide) h
theorem ownsP_at {w : World} {B q n c : Nat} {xs : List P2} (h : w.ownsRow B 61 2 (.slice (some ⟨q, 0, none⟩) n c) n (xs.flatMap enc2)) (j : Nat) (hj : j < n) : ∃ x : P2, xs[j]? = some x ∧ (w.cell? ⟨q, j * 2, none⟩ = some (.int .i64 x.1) ∧ w.cell? ⟨q, j * 2 + 1, none⟩ = some (.int .i64 x.2)) ∧ (w.frozen? ⟨q, j * 2, none⟩ = false ∧ w.frozen? ⟨q, j * 2 + 1, none⟩ = false) ∧ q < w.heap.size := by
  have hl : xs.length = n := (ownsP_rd h).length
  have hi : j < xs.length := by omega
  have h0 := flat_get enc2_len xs j 0 hi (by omega)
  have h1 := flat_get enc2_len xs j 1 hi (by omega)
  rw [Nat.add_zero] at h0
  refine ⟨xs[j], by simp, ⟨?_, ?_⟩, ⟨h.frozenAt _, h.frozenAt _⟩, ?_⟩
  · rw [h.cellAt (j * 2) (by omega), h0]; rfl
  · rw [h.cellAt (j * 2 + 1) (by omega), h1]; rfl
  · rcases h.2 with ⟨h', _⟩ | ⟨g', cap', cur, h', _, hg, _⟩
    · simp at h'
    · simp at h'; rw [h'.1]; exact (Array.getElem?_eq_some_iff.1 hg).1
theorem flat2_set : ∀ (xs : List P2) (j : Nat) (x : P2), ((xs.flatMap enc2).set (j * 2) (.int .i64 x.1)).set (j * 2 + 1) (.int .i64 x.2) = (xs.set j x).flatMap enc2
  | [], j, x => by simp
  | y :: xs, 0, x => rfl
  | y :: xs, j + 1, x => by
    have := flat2_set xs j x
    simp only [List.flatMap_cons, List.set_cons_succ]
    rw [← this]
    show (([Value.int .i64 y.1, .int .i64 y.2] ++ xs.flatMap enc2).set ((j + 1) * 2) _).set ((j + 1) * 2 + 1) _ = [Value.int .i64 y.1, .int .i64 y.2] ++ _
    rw [show (j + 1) * 2 = (j * 2) + 1 + 1 by omega]
    rfl
theorem ownsP_set {w : World} {B q n c : Nat} {xs : List P2} (h : w.ownsRow B 61 2 (.slice (some ⟨q, 0, none⟩) n c) n (xs.flatMap enc2)) (j : Nat) (x : P2) :
    ((w.setCell ⟨q, j * 2, none⟩ (.int .i64 x.1)).setCell ⟨q, j * 2 + 1, none⟩ (.int .i64 x.2)).ownsRow B 61 2 (.slice (some ⟨q, 0, none⟩) n c) n ((xs.set j x).flatMap enc2) := by
  have h1 := (h.stored (j * 2) (.int .i64 x.1)).1
  have h2 := (h1.stored (j * 2 + 1) (.int .i64 x.2)).1
  rw [flat2_set] at h2
  exact h2
def ltOf (cf : P2 → P2 → Int) (x y : P2) : Bool := decide (cf x y < 0)
/-- what is asked of a comparison: at the elements, in every world that the sort passes through -/
structure CmpOn (g : Nat) (cb : Array Value) (cf : P2 → P2 → Int) (b : Nat) (xs : List P2) (w : World) : Prop where
  eg : ∀ args w, (callFunc g args).run Try.prog w = .ok (.enter g args) w
  gives : ∀ (wr : World) (x y : P2), w.grownBy wr (some b) → x ∈ xs → y ∈ xs → Calls Try.prog g (#[val2 x, val2 y] ++ cb) wr fun e w' => e = .returned (.int .i64 (cf x y)) ∧ Below wr.heap.size wr w'
theorem grownB {w w1 w2 : World} {r : Option Nat} (h : w.grownBy w1 r) (hb : Below w1.heap.size w1 w2) : w.grownBy w2 r := h.trans ⟨hb.os, hb.tape, hb.output, hb.size, fun j hj _ => hb.block j hj⟩
theorem CmpOn.later {g cb cf b xs} {w w1 : World} (h : CmpOn g cb cf b xs w) (hg : w.grownBy w1 (some b)) : CmpOn g cb cf b xs w1 := ⟨h.eg, fun wr x y h1 => h.gives wr x y (hg.trans h1)⟩
theorem CmpOn.sub {g cb cf b xs ys} {w : World} (h : CmpOn g cb cf b xs w) (hs : ∀ x ∈ ys, x ∈ xs) : CmpOn g cb cf b ys w := ⟨h.eg, fun wr x y h1 hx hy => h.gives wr x y h1 (hs x hx) (hs y hy)⟩
theorem setG {a w : World} {b : Nat} (h : a.grownBy w (some b)) (i : Nat) (v : Value) : a.grownBy (w.setCell ⟨b, i, none⟩ v) (some b) :=
  h.trans ⟨rfl, rfl, rfl, by simp [World.setCell], fun k _ hk => Below.heap_setCell _ _ _ _ (fun e => hk (by simp [e]))⟩
theorem drewG {a w : World} {r : Option Nat} (h : a.grownBy w r) : a.grownBy w.drew r := ⟨h.os, h.tape, h.output, h.size, h.block⟩
theorem swap_row (pre p r : List P2) (y x : P2) (j : Nat) (hj : j = pre.length + p.length) : ((pre ++ (p ++ [y] ++ x :: r)).set (j + 1) y).set j x = pre ++ (p ++ (x :: (y :: r))) := by
  subst hj
  rw [show pre ++ (p ++ [y] ++ x :: r) = (pre ++ p) ++ (y :: x :: r) by simp, List.set_append_right _ _ (by simp), List.set_append_right _ _ (by simp)]
  simp [show pre.length + p.length + 1 - (pre.length + p.length) = 1 by omega]
def SortP (B : Nat) (w : World) (b n c : Nat) (xs : List P2) (e : Ending) (w' : World) : Prop :=
  e = .returned (.tuple #[]) ∧ w'.ownsRow B 61 2 (.slice (some ⟨b, 0, none⟩) n c) n (xs.flatMap enc2) ∧ w.grownBy w' (some b)
set_option maxRecDepth 100000 in
set_option maxHeartbeats 4000000 in
theorem insertion_any (g : Nat) (cb : Array Value) (cf : P2 → P2 → Int) (B b n c a m : Nat) (pre xs post : List P2) (w : World) (hn : n ≤ 1000) (hO : w.ownsRow B 61 2 (.slice (some ⟨b, 0, none⟩) n c) n ((pre ++ (xs ++ post)).flatMap enc2))
    (ha : pre.length = a) (hm : a + xs.length = m) (hC : CmpOn g cb cf b xs w) :
    Calls Try.prog 100 #[.slice (some ⟨b, 0, none⟩) n c, .int .i64 a, .int .i64 m, .func (.func g) #[] cb] w (SortP B w b n c (pre ++ (isortL (ltOf cf) xs ++ post))) := by
  have hlen : (pre ++ (xs ++ post)).length = n := (ownsP_rd hO).length
  have hmn : m ≤ n := by simp at hlen; omega
  have han : a ≤ n := by simp at hlen; omega
  have eg := hC.eg
  have HC := Lib.hid hC
  have HO0 := Lib.hid hO
  have HA := Lib.hid ha; have HM := Lib.hid hm; have HLN := Lib.hid hlen
  clear hO ha hm hlen hC
  go_enter Try.func100, Try.ntmps100
  go_wp2
  go_loopw [8] (fun v wr => ∃ (i : Nat) (S : List P2), v = .int .i64 ((a + i : Nat) : Int) ∧ 1 ≤ i ∧ a + i ≤ max (a + 1) m ∧ wr.ownsRow B 61 2 (.slice (some ⟨b, 0, none⟩) n c) n ((pre ++ (S ++ (xs.drop i ++ post))).flatMap enc2) ∧ S = isortL (ltOf cf) (xs.take i) ∧ w.grownBy wr (some b)) (fun v _ => m - (intOf v).toNat)
  case atStart =>
    refine ⟨1, isortL (ltOf cf) (xs.take 1), by go_num, by omega, by omega, ?_, rfl, World.grownBy.refl _ _⟩
    have : isortL (ltOf cf) (xs.take 1) = xs.take 1 := by cases xs <;> rfl
    rw [this, ← List.append_assoc (xs.take 1), List.take_append_drop]
    exact HO0.out
  case round =>
    obtain ⟨i, S, rfl, hi1, him, hO, hS, hG⟩ := hrel
    have HO := Lib.hid hO; have HS := Lib.hid hS; have HG := Lib.hid hG
    clear hO hS hG
    by_cases hlt : a + i < m
    · have hlt' : ((a + i : Nat) : Int) < (m : Int) := by omega
      obtain ⟨x, hx⟩ : ∃ x, xs[i]? = some x := ⟨_, List.getElem?_eq_getElem (by have := HM.out; omega)⟩
      have hxd : xs.drop i = x :: xs.drop (i + 1) := by obtain ⟨h1, h2⟩ := List.getElem?_eq_some_iff.1 hx; rw [List.drop_eq_getElem_cons h1, h2]
      have hsl : S.length = i := by rw [HS.out, (isort_perm _ _).length_eq, List.length_take]; have := HM.out; omega
      have HX := Lib.hid hx; have HSL := Lib.hid hsl
      have HTK : Hid (xs.take (i + 1) = xs.take i ++ [x]) := Lib.hid (by rw [List.take_add_one, hx]; rfl)
      have HOi : Hid (wr.ownsRow B 61 2 (.slice (some ⟨b, 0, none⟩) n c) n ((pre ++ (S ++ (x :: ([] ++ (xs.drop (i + 1) ++ post))))).flatMap enc2)) := Lib.hid (by have := HO.out; rw [hxd] at this; exact this)
      clear hx hxd hsl
      obtain ⟨wo, rfl⟩ : ∃ wo : World, wo = wr := ⟨_, rfl⟩
      go_wp2
      go_loopw [9] (fun v wr => ∃ (j : Nat) (p q : List P2), v = .int .i64 (j : Nat) ∧ j = a + p.length ∧ p ++ q = S ∧ (∀ y ∈ q, ltOf cf x y = true) ∧ wr.ownsRow B 61 2 (.slice (some ⟨b, 0, none⟩) n c) n ((pre ++ (p ++ (x :: (q ++ (xs.drop (i + 1) ++ post))))).flatMap enc2) ∧ wo.grownBy wr (some b)) (fun v _ => (intOf v).toNat)
      case atStart => exact ⟨a + i, S, [], rfl, by rw [HSL.out], by simp, by simp, HOi.out, World.grownBy.refl _ _⟩
      case round =>
        obtain ⟨j, p, q, rfl, hj, hpq, hq, hOj, hGj⟩ := hrel
        have HPQ := Lib.hid hpq; have HQ := Lib.hid hq; have HOJ := Lib.hid hOj; have HGJ := Lib.hid hGj; have HJ := Lib.hid hj
        have hjm : j < m := by have := congrArg List.length hpq; rw [HSL.out] at this; simp at this; omega
        clear hpq hq hOj hGj
        rcases List.eq_nil_or_concat p with hp | ⟨p', y, hp⟩
        · have hja : j = a := by rw [hj, hp]; rfl
          subst hja
          have HP := Lib.hid hp
          clear hj hp
          have hd : decide ((j : Int) > (j : Int)) = false := by simp
          go_wp2_with (refine wp_region_later_lit (by kernel_rfl) (by kernel_rfl) ?_; (repeat (go_big_quiet_step (fail))); refine wpQuiet_nil ?_; intro w3 hb3)
          go_roundw
          case rel =>
            refine ⟨i + 1, p ++ x :: q, by go_num, by omega, by omega, ?_, ?_, grownB (HG.out.trans HGJ.out) hb3⟩
            · have := owns_ext HOJ.out hb3
              rw [List.append_assoc p, List.cons_append]
              exact this
            · rw [HTK.out, isort_snoc, ← HS.out, ← HPQ.out, insP_eq HQ.out (by rw [HP.out]; simp)]
          case measure => simp [intOf]; omega
        · rw [List.concat_eq_append] at hp
          have HP := Lib.hid hp
          obtain ⟨jp, rfl⟩ : ∃ jp, j = jp + 1 := ⟨a + p'.length, by rw [hj, hp]; simp; omega⟩
          have hjp : jp = a + p'.length := by rw [hp] at hj; simp at hj; omega
          have HJP := Lib.hid hjp
          have hja : (a : Int) < (jp : Int) + 1 := by omega
          have hxm : x ∈ xs := List.mem_of_getElem? HX.out
          have hym : y ∈ xs := by
            have : y ∈ S := by rw [← HPQ.out, HP.out]; simp
            rw [HS.out, (isort_perm _ _).mem_iff] at this
            exact List.mem_of_mem_take this
          have HXM := Lib.hid hxm; have HYM := Lib.hid hym
          have e1 : (pre ++ (p ++ (x :: (q ++ (xs.drop (i + 1) ++ post)))))[jp + 1]? = some x := by
            rw [HP.out, ← List.append_assoc, List.getElem?_append_right (by simp; have := HA.out; omega)]
            have : jp + 1 - (pre ++ (p' ++ [y])).length = 0 := by simp; have := HA.out; omega
            rw [this]; rfl
          have e2 : (pre ++ (p ++ (x :: (q ++ (xs.drop (i + 1) ++ post)))))[jp]? = some y := by
            rw [HP.out, List.append_assoc, ← List.append_assoc, List.getElem?_append_right (by simp; have := HA.out; omega)]
            have : jp - (pre ++ p').length = 0 := by simp; have := HA.out; omega
            rw [this]; rfl
          obtain ⟨x', hx', c1, f1, hbw⟩ := ownsP_at HOJ.out (jp + 1) (by omega)
          obtain ⟨c1, c1b⟩ := c1; obtain ⟨f1, f1b⟩ := f1
          obtain ⟨y', hy', c2, f2, _⟩ := ownsP_at HOJ.out jp (by omega)
          obtain ⟨c2, c2b⟩ := c2; obtain ⟨f2, f2b⟩ := f2
          rw [e1] at hx'; rw [e2] at hy'
          obtain rfl : x = x' := by simpa using hx'
          obtain rfl : y = y' := by simpa using hy'
          have HC1 := Lib.hid c1; have HC2 := Lib.hid c2; have HF1 := Lib.hid f1; have HF2 := Lib.hid f2; have HC1b := Lib.hid c1b; have HC2b := Lib.hid c2b; have HF1b := Lib.hid f1b; have HF2b := Lib.hid f2b
          clear e1 e2 hx' hy' hj hp hjp hxm hym
          by_cases hl : cf x y < 0
          · have HL := Lib.hid hl
            go_wp2_with (refine wp_region_later_lit (by kernel_rfl) (by kernel_rfl) ?_; (repeat (go_big_quiet_step ((go_at_fn g; exact later_of (HC.out.gives _ x y (grownB (HG.out.trans HGJ.out) (After.below _)) HXM.out HYM.out))))); refine wpQuiet_nil ?_; intro w3 hb3)
            clear f1 f2 c1 c2 f1b f2b c1b c2b
            have c1 := (hb3.cell (p := ⟨b, (jp + 1) * 2, none⟩) hbw).trans HC1.out
            have c2 := (hb3.cell (p := ⟨b, jp * 2, none⟩) hbw).trans HC2.out
            have f1 := (hb3.frozen (p := ⟨b, (jp + 1) * 2, none⟩) hbw).trans HF1.out
            have f2 := (hb3.frozen (p := ⟨b, jp * 2, none⟩) hbw).trans HF2.out
            have c1b := (hb3.cell (p := ⟨b, (jp + 1) * 2 + 1, none⟩) hbw).trans HC1b.out
            have c2b := (hb3.cell (p := ⟨b, jp * 2 + 1, none⟩) hbw).trans HC2b.out
            have f1b := (hb3.frozen (p := ⟨b, (jp + 1) * 2 + 1, none⟩) hbw).trans HF1b.out
            have f2b := (hb3.frozen (p := ⟨b, jp * 2 + 1, none⟩) hbw).trans HF2b.out
            have i7 : ¬ jp * 2 = (jp + 1) * 2 := by omega
            have i8 : ¬ (jp + 1) * 2 = jp * 2 := by omega
            have i9 : ¬ jp * 2 + 1 = (jp + 1) * 2 := by omega
            have i10 : ¬ (jp + 1) * 2 = jp * 2 + 1 := by omega
            have i11 : ¬ jp * 2 = (jp + 1) * 2 + 1 := by omega
            have i12 : ¬ (jp + 1) * 2 + 1 = jp * 2 := by omega
            go_big_region
            go_wp2
            go_roundw
            case rel =>
              refine ⟨jp, p', y :: q, rfl, HJP.out, by rw [← HPQ.out, HP.out]; simp, ?_, ?_, ?_⟩
              · intro z hz
                rcases List.mem_cons.1 hz with rfl | hz
                · exact decide_eq_true HL.out
                · exact HQ.out z hz
              · have h5 := (ownsP_set (ownsP_set (owns_ext HOJ.out hb3) (jp + 1) y) jp x).drew
                rw [HP.out, swap_row pre p' (q ++ (List.drop (i + 1) xs ++ post)) y x jp (by rw [HA.out]; exact HJP.out)] at h5
                exact h5
              · exact drewG (setG (setG (setG (setG (grownB HGJ.out hb3) _ _) _ _) _ _) _ _)
            case measure => simp [intOf]
          · have hl' : decide (cf x y < 0) = false := by simpa using hl
            have HL := Lib.hid hl
            go_wp2_with (refine wp_region_later_lit (by kernel_rfl) (by kernel_rfl) ?_; (repeat (go_big_quiet_step ((go_at_fn g; exact later_of (HC.out.gives _ x y (grownB (HG.out.trans HGJ.out) (After.below _)) HXM.out HYM.out))))); refine wpQuiet_nil ?_; intro w3 hb3)
            go_roundw
            case rel =>
              refine ⟨i + 1, p ++ x :: q, by go_num, by omega, by omega, ?_, ?_, grownB (HG.out.trans HGJ.out) hb3⟩
              · have := owns_ext HOJ.out hb3
                rw [List.append_assoc p, List.cons_append]
                exact this
              · rw [HTK.out, isort_snoc, ← HS.out, ← HPQ.out, insP_eq HQ.out (by rw [HP.out]; intro z hz; simp at hz; subst hz; unfold ltOf; exact decide_eq_false HL.out)]
            case measure => simp [intOf]; omega
    · have hlt' : ¬ ((a + i : Nat) : Int) < (m : Int) := by omega
      go_wp2
      go_end0
      refine ⟨rfl, ?_, HG.out⟩
      have hle : xs.length ≤ i := by have := HM.out; omega
      have := HO.out
      rw [HS.out, List.take_of_length_le hle, List.drop_of_length_le hle] at this
      exact this
end Go.Proofs.Ytfiggbeaomkepaa.StP
