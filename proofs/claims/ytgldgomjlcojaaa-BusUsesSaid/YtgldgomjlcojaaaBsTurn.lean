/- Contracts of turning and of the methods of a wheel. The conditions: the slots read as named and are valid; numbers in range. -/
import Derived.Test.YtgldgomjlcojaaaBsTab
import Derived.Test.YtgldgomjlcojaaaBsrch
import Derived.Test.YtgldgomjlcojaaaRows5
import Derived.Deep.RegionLaw
import Derived.Deep.DeepCutAuto
namespace Go.Proofs.Ytgldgomjlcojaaa
open Go.RowKit
set_option linter.unusedSimpArgs false
set_option linter.unusedVariables false
def posI (t : List Int) (m : Int) : List Int := (posN t m).map fun (k : Nat) => (k : Int)
theorem posI_snoc (t : List Int) (o m : Int) : posI (t ++ [o]) m = posI t m ++ if o = m then [(t.length : Int)] else [] := by
  unfold posI; rw [posN_snoc, List.map_append]; congr 1; split <;> rfl
/-- the rows of a wheel: the owners, and the ticks of each master -/
def rowOf (T : List Int) : Nat → List Int
  | 0 => T
  | m + 1 => posI T m
abbrev whV (h : Nat → Hdr) : Value := .agg #[sl (h 0), sl (h 1), sl (h 2), sl (h 3), sl (h 4)]
def OutW (B : Nat) (w : World) (T : List Int) (e : Ending) (w' : World) : Prop :=
  ∃ h : Nat → Hdr, e = .returned (whV h) ∧ IRows B w' 5 h (rowOf T) ∧ Below B w w'
/-- a wheel in the making: the block of the result, and the one behind it -/
structure WhAt (q : Nat) (w : World) (h : Nat → Hdr) (X : Nat → List Int) : Prop where
  rows : IRows (q + 2) w 5 h X
  lt : q + 2 ≤ w.heap.size
  at_ : ∀ i, i < 5 → w.cell? ⟨q + 1, i, none⟩ = some (sl (h i))
  res : ∀ i, i < 5 → w.cell? ⟨q, i, none⟩ = some (.slice none 0 0)
  fz : ∀ b i, q ≤ b → b ≤ q + 1 → w.frozen? ⟨b, i, none⟩ = false
theorem WhAt.ext {q : Nat} {w w' : World} {h X} (hW : WhAt q w h X) (hb : Below w.heap.size w w') : WhAt q w' h X := by
  have hl := hW.lt
  exact ⟨hW.rows.ext hb, Nat.le_trans hW.lt hb.size, fun i hi => (hb.cell (p := ⟨q + 1, i, none⟩) (by simp only []; omega)).trans (hW.at_ i hi), fun i hi => (hb.cell (p := ⟨q, i, none⟩) (by simp only []; omega)).trans (hW.res i hi),
    fun b i h1 h2 => (hb.frozen (p := ⟨b, i, none⟩) (by simp only []; omega)).trans (hW.fz b i h1 h2)⟩
/-- one row is pushed, and its header laid -/
theorem WhAt.push {q : Nat} {w w' : World} {h X} (hW : WhAt q w h X) {i : Nat} (hi : i < 5) {a' : Option Addr} {c' : Nat} {x : Int}
    (hown : w'.ownsRow (q + 2) 3 1 (.slice a' ((h i).n + 1) c') ((h i).n + 1) ((X i ++ [x]).flatMap enc1)) (hg : w.grownBy w' (sl (h i)).ownBlock)
    (hb : (Value.slice a' ((h i).n + 1) c').ownBlock = (sl (h i)).ownBlock ∨ (Value.slice a' ((h i).n + 1) c').ownBlock = some w.heap.size) :
    WhAt q (w'.setCell ⟨q + 1, i, none⟩ (.slice a' ((h i).n + 1) c')) (updF h i ⟨a', (h i).n + 1, c'⟩) (updF X i (X i ++ [x])) ∧ Below (q + 2) w w' ∧ w.heap.size ≤ w'.heap.size := by
  have hl := hW.lt
  have hbw : Below (q + 2) w w' := (Below.refl _ w).grown hg hl (fun j hj => ((hW.rows.own i hi).lt j hj).1)
  have hat : ∀ j, j < 5 → w'.cell? ⟨q + 1, j, none⟩ = some (sl (h j)) := fun j hj => (hbw.cell (p := ⟨q + 1, j, none⟩) (by simp only []; omega)).trans (hW.at_ j hj)
  refine ⟨⟨(hW.rows.push hi hown hg hb).far (by omega) _, by have := hbw.size; simp; omega, fun j hj => ?_, fun j hj => ?_, fun b j h1 h2 => ?_⟩, hbw, hbw.size⟩
  · by_cases e : j = i
    · subst e; rw [updF_same]; exact World.cell?_setCell_same _ _ _ (hat j hj)
    · rw [updF_other _ _ e, World.cell?_setCell_other _ _ _ _ (fun p => e (congrArg Addr.off p).symm)]; exact hat j hj
  · rw [World.cell?_setCell_other _ _ _ _ (fun p => by have := congrArg Addr.block p; simp only [] at this; omega)]
    exact (hbw.cell (p := ⟨q, j, none⟩) (by simp only []; omega)).trans (hW.res j hj)
  · rw [World.frozen?_setCell]; exact (hbw.frozen (p := ⟨b, j, none⟩) (by simp only []; omega)).trans (hW.fz b j h1 h2)
theorem posI_len_le (T : List Int) (m : Int) : (posI T m).length ≤ T.length := by
  unfold posI; rw [List.length_map, posN_len]
  have := (cF_add (t := T) (m := m) 0 T.length).2; rw [Nat.zero_add] at this; unfold cnt; simp only [cF] at this; omega
def gdC (w : World) (p : Addr) : Value := (w.cell? p).getD undef
theorem gdC_some {w : World} {p : Addr} {v : Value} (h : w.cell? p = some v) : w.cell? p = some (gdC w p) := by unfold gdC; rw [h]; rfl
theorem rowOf_snoc (T : List Int) (m : Nat) (hm : m < 4) : ∀ i, i < 5 → updF (updF (rowOf T) (1 + m) (rowOf T (1 + m) ++ [(T.length : Int)])) 0 (updF (rowOf T) (1 + m) (rowOf T (1 + m) ++ [(T.length : Int)]) 0 ++ [(m : Int)]) i = rowOf (T ++ [(m : Int)]) i
  | 0, _ => by rw [updF_same, updF_other _ _ (by omega)]; rfl
  | k + 1, hk => by
    rw [updF_other _ _ (by omega)]
    have e : rowOf (T ++ [(m : Int)]) (k + 1) = posI T k ++ if (m : Int) = (k : Int) then [(T.length : Int)] else [] := posI_snoc T m k
    rw [e]
    by_cases q : k = m
    · subst q; rw [Nat.add_comm 1, updF_same, if_pos rfl]; rfl
    · rw [updF_other _ _ (by omega), if_neg (by omega)]; simp [rowOf]
theorem turn_step {w wr wb w1 : World} {q sb m i0 : Nat} {h : Nat → Hdr} {X : Nat → List Int} {a1 : Option Addr} {c1 : Nat} {x : Int} (hW : WhAt q wr h X) (hB : Below q w wr) (hsb2 : q + 2 ≤ sb) (hsz : sb < wr.heap.size) (hsc : wr.cell? ⟨sb, 0, none⟩ = some (.int .i64 m))
    (c0 : wr.cell? ⟨q + 1, 0, none⟩ = some (sl (h 0))) (cm : wr.cell? ⟨q + 1, i0, none⟩ = some (sl (h i0))) (fm : wr.frozen? ⟨q + 1, i0, none⟩ = false) (hsn : ∀ i, i < 5 → (sl (h i)).ownBlock ≠ some sb) (hm5 : i0 < 5)
    (hbw : Below wr.heap.size wr wb) (hwb : wr.heap.size ≤ wb.heap.size)
    (hown1 : w1.ownsRow (q + 2) 3 1 (.slice a1 ((h i0).n + 1) c1) ((h i0).n + 1) ((X i0 ++ [x]).flatMap enc1)) (hg1 : wb.grownBy w1 (sl (h i0)).ownBlock)
    (hb1 : (Value.slice a1 ((h i0).n + 1) c1).ownBlock = (sl (h i0)).ownBlock ∨ (Value.slice a1 ((h i0).n + 1) c1).ownBlock = some wb.heap.size) :
    w1.cell? ⟨sb, 0, none⟩ = some (.int .i64 m) ∧ w1.cell? ⟨q + 1, i0, none⟩ = some (sl (h i0)) ∧ w1.frozen? ⟨q + 1, i0, none⟩ = false ∧ w1.cell? ⟨q + 1, 0, none⟩ = some (sl (h 0)) ∧ wr.heap.size ≤ w1.heap.size ∧
    Hid (WhAt q (w1.setCell ⟨q + 1, i0, none⟩ (.slice a1 ((h i0).n + 1) c1)) (updF h i0 ⟨a1, (h i0).n + 1, c1⟩) (updF X i0 (X i0 ++ [x])) ∧
      (w1.setCell ⟨q + 1, i0, none⟩ (.slice a1 ((h i0).n + 1) c1)).cell? ⟨sb, 0, none⟩ = some (.int .i64 m) ∧ (∀ i, i < 5 → (sl (updF h i0 ⟨a1, (h i0).n + 1, c1⟩ i)).ownBlock ≠ some sb) ∧ Below q w (w1.setCell ⟨q + 1, i0, none⟩ (.slice a1 ((h i0).n + 1) c1))) := by
  have hl := hW.lt
  have h3 := (hW.ext hbw).push hm5 hown1 hg1 hb1
  have f0 : w1.cell? ⟨sb, 0, none⟩ = some (.int .i64 m) := by
    rw [hg1.cell_far ⟨sb, 0, none⟩ (by simp only []; omega) (fun e => hsn _ hm5 e.symm)]
    exact (hbw.cell (p := ⟨sb, 0, none⟩) (by simp only []; omega)).trans hsc
  refine ⟨f0, (h3.2.1.cell (p := ⟨q + 1, i0, none⟩) (by simp only []; omega)).trans ((hbw.cell (by simp only []; omega)).trans cm), (h3.2.1.frozen (p := ⟨q + 1, i0, none⟩) (by simp only []; omega)).trans ((hbw.frozen (by simp only []; omega)).trans fm),
    (h3.2.1.cell (p := ⟨q + 1, 0, none⟩) (by simp only []; omega)).trans ((hbw.cell (by simp only []; omega)).trans c0), Nat.le_trans hwb h3.2.2, Lib.hid ⟨h3.1, ?_, fun i hi => ?_, ?_⟩⟩
  · rw [World.cell?_setCell_other _ _ _ _ (fun p => by have := congrArg Addr.block p; simp only [] at this; omega)]; exact f0
  · by_cases e : i = i0
    · subst e
      rw [updF_same]
      rcases hb1 with hb1 | hb1
      · rw [hb1]; exact hsn _ hi
      · rw [hb1]; simp; omega
    · rw [updF_other _ _ e]; exact hsn i hi
  · exact (Below.trans hB ((hbw.mono (by omega)).trans (h3.2.1.mono (by omega)))).setCell (by simp only []; omega) _
theorem WhAt.congr {q : Nat} {w : World} {h X Y} (hW : WhAt q w h X) (e : ∀ i, i < 5 → X i = Y i) : WhAt q w h Y :=
  ⟨⟨fun i hi => by rw [← e i hi]; exact hW.rows.own i hi, hW.rows.apart⟩, hW.lt, hW.at_, hW.res, hW.fz⟩
set_option maxRecDepth 10000 in
set_option maxHeartbeats 2000000 in
theorem turning_any (a : Option Addr) (n c : Nat) (l : List P2) (w : World) (hR : Rd w a n 2 (l.map enc2)) (hv : validS l = true) :
    Calls Try.prog 45 #[.slice a n c] w (OutW w.heap.size w (tableS l)) := by
  have hs := hR.small
  have htl := (tableS_len hv).2
  have HV := Lib.hid (validS_iff.1 hv).2.2
  obtain ⟨R, hr⟩ : ∃ R, R = tableS l := ⟨_, rfl⟩
  rw [← hr] at htl ⊢
  have HST : Hid ([] ++ tableS (l.drop 0) = R) := Lib.hid hr.symm
  have HL := Lib.hid hR.length; have HR := Lib.hid hR; clear hR hv hr
  have e1 := E1
  go_enter Try.func45, Try.ntmps45
  go_wp2
  obtain ⟨wb, hwb⟩ : ∃ wb, wb = (w.alloc (.cells #[.slice none 0 0, .slice none 0 0, .slice none 0 0, .slice none 0 0, .slice none 0 0] 59)).alloc (.cells #[.slice none 0 0, .slice none 0 0, .slice none 0 0, .slice none 0 0, .slice none 0 0] 59) := ⟨_, rfl⟩
  have HW0 : Hid (WhAt w.heap.size wb (fun _ => ⟨none, 0, 0⟩) (rowOf [])) := Lib.hid (by
    subst hwb
    refine ⟨⟨fun i hi => ?_, fun i j hi hj _ => .inl rfl⟩, by simp, fun i hi => ?_, fun i hi => ?_, fun b i h1 h2 => ?_⟩
    · have e : rowOf [] i = [] := by cases i <;> rfl
      rw [e]; exact World.ownsRow_nil _ _ _ _
    · match i, hi with
      | 0, _ => simp [go_sem]
      | 1, _ => simp [go_sem]
      | 2, _ => simp [go_sem]
      | 3, _ => simp [go_sem]
      | 4, _ => simp [go_sem]
    · match i, hi with
      | 0, _ => simp [go_sem]
      | 1, _ => simp [go_sem]
      | 2, _ => simp [go_sem]
      | 3, _ => simp [go_sem]
      | 4, _ => simp [go_sem]
    · have : b = w.heap.size ∨ b = w.heap.size + 1 := by omega
      rcases this with rfl | rfl <;> simp [go_sem])
  have HB0 : Hid (Below w.heap.size w wb) := Lib.hid (by rw [hwb]; (repeat' (first | (with_reducible exact Below.refl _ _) | (with_reducible assumption) | (with_reducible refine Below.alloc ?_ ?_ _) | (with_reducible refine Below.drew ?_) | (with_reducible refine Below.draws ?_ _) | (with_reducible refine Below.setCell ?_ ?_ _) | (refine Below.then ?_ (by with_reducible assumption)) | go_size)))
  rw [← hwb]
  clear hwb
  go_loopw [8] (fun i wr => ∃ (k : Nat) (T : List Int) (h : Nat → Hdr), k ≤ n ∧ i = .int .i64 k ∧ WhAt w.heap.size wr h (rowOf T) ∧ T ++ tableS (l.drop k) = R ∧ Below w.heap.size w wr) (fun i _ => n - (intOf i).toNat)
  case atStart => exact ⟨0, [], _, Nat.zero_le _, rfl, HW0.out, HST.out, HB0.out⟩
  case round =>
    obtain ⟨k, T, h, hk, rfl, hW, he, hB⟩ := hrel
    have HE := Lib.hid he; have HW := Lib.hid hW; have HB := Lib.hid hB
    have hz := hW.lt
    clear he hB HST hW HW0 HB0
    by_cases hlt : k < n
    · obtain ⟨⟨o, sp⟩, b, off, rfl, hb, h1, h2, HD⟩ := (HR.out.ext HB.out).next2 k hlt
      have hsp := HV.out (o, sp) (List.mem_of_mem_drop (i := k) (by rw [HD.out]; simp))
      simp only [] at hsp h1 h2
      obtain ⟨span, rfl⟩ := Int.eq_ofNat_of_zero_le (show 0 ≤ sp by omega)
      obtain ⟨m, rfl⟩ := Int.eq_ofNat_of_zero_le (show 0 ≤ o by omega)
      have hspan : span ≤ 50 := by omega
      have hm4 : m < 4 := by omega
      have HE2 : Hid (T ++ (List.replicate (span - 0) (m : Int) ++ tableS (l.drop (k + 1))) = R) := by have := HE.out; rw [HD.out, tableS_cons] at this; exact Lib.hid this
      clear hsp HD HE
      go_wp2
      obtain ⟨sb, hsb⟩ : ∃ sb, sb = wr.heap.size := ⟨_, rfl⟩
      have hsb2 : w.heap.size + 2 ≤ sb := by omega
      obtain ⟨wo, hwo⟩ : ∃ wo, wo = wr.alloc (.cells #[.int .i64 m, .int .i64 span] 27) := ⟨_, rfl⟩
      have hbo : Below wr.heap.size wr wo := by rw [hwo]; (repeat' (first | (with_reducible exact Below.refl _ _) | (with_reducible assumption) | (with_reducible refine Below.alloc ?_ ?_ _) | (with_reducible refine Below.drew ?_) | (with_reducible refine Below.draws ?_ _) | (with_reducible refine Below.setCell ?_ ?_ _) | (refine Below.then ?_ (by with_reducible assumption)) | go_size))
      have HS0 : Hid (wo.cell? ⟨sb, 0, none⟩ = some (.int .i64 m) ∧ sb < wo.heap.size) := Lib.hid (by rw [hwo, hsb]; simp [go_sem])
      have HW1 := Lib.hid (HW.out.ext hbo)
      have HB1 := Lib.hid (Below.then HB.out hbo)
      have HSB : Hid (∀ i, i < 5 → (sl (h i)).ownBlock ≠ some sb) := Lib.hid (fun i hi e => by have := ((HW.out.rows.own i hi).lt _ e).2; omega)
      rw [← hwo, ← hsb]
      clear hwo hbo h1 h2 HW HB hsb
      go_loopw [14] (fun i wi => ∃ (j : Nat) (T : List Int) (h : Nat → Hdr), j ≤ span ∧ i = .int .i64 j ∧ WhAt w.heap.size wi h (rowOf T) ∧ T ++ (List.replicate (span - j) (m : Int) ++ tableS (l.drop (k + 1))) = R ∧ wi.cell? ⟨sb, 0, none⟩ = some (.int .i64 m) ∧ sb < wi.heap.size ∧ (∀ i, i < 5 → (sl (h i)).ownBlock ≠ some sb) ∧ Below w.heap.size w wi) (fun i _ => span - (intOf i).toNat)
      case atStart => exact ⟨0, T, h, Nat.zero_le _, rfl, HW1.out, HE2.out, HS0.out.1, HS0.out.2, HSB.out, HB1.out⟩
      case round =>
        clear HE2 HW1 HB1 HS0 HSB
        obtain ⟨j, T, h, hj, rfl, hW, he, hsc, hsz, hsn, hB⟩ := hrel
        have HSN := Lib.hid hsn
        have HE := Lib.hid he; have HW := Lib.hid hW; have HB := Lib.hid hB
        have hz2 := hW.lt
        have hTl : T.length ≤ 400 := by have := congrArg List.length he; simp at this; omega
        by_cases hjl : j < span
        · have c0 := hW.at_ 0 (by omega)
          have cm := hW.at_ (1 + m) (by omega)
          have fm := hW.fz (w.heap.size + 1) (1 + m) (by omega) (by omega)
          have hm5 : 1 + m < 5 := by omega
          have i0 : (0 : Int) ≤ (m : Int) := by omega
          have i4 : (m : Int) < 4 := by omega
          clear he hB hW hsn
          have hq1 : w.heap.size + 1 < wr.heap.size := by omega
          have hnm : (h (1 + m)).n ≤ 400 := by have := HW.out.rows.len hm5; rw [← this]; rw [show rowOf T (1 + m) = posI T m by rw [Nat.add_comm]; rfl]; exact Nat.le_trans (posI_len_le T m) hTl
          go_wp2_with fail
          go_cut [] (fun wx => ∃ (a1 : Option Addr) (c1 : Nat), WhAt w.heap.size wx (updF h (1 + m) ⟨a1, (h (1 + m)).n + 1, c1⟩) (updF (rowOf T) (1 + m) (rowOf T (1 + m) ++ [((h 0).n : Int)])) ∧ wx.cell? ⟨sb, 0, none⟩ = some (.int .i64 m) ∧ wr.heap.size ≤ wx.heap.size ∧ (∀ i, i < 5 → (sl (updF h (1 + m) ⟨a1, (h (1 + m)).n + 1, c1⟩ i)).ownBlock ≠ some sb) ∧ Below w.heap.size w wx)
          case first =>
            go_region_law ((refine step_app2 (by rfl) _ _ _ (by rfl) e1 (B := w.heap.size + 2) (news := [.int .i64 (h 0).n]) (by rfl) (by exact (HW.out.ext (by (repeat' (first | (with_reducible exact Below.refl _ _) | (with_reducible assumption) | (with_reducible refine Below.alloc ?_ ?_ _) | (with_reducible refine Below.drew ?_) | (with_reducible refine Below.draws ?_ _) | (with_reducible refine Below.setCell ?_ ?_ _) | (refine Below.then ?_ (by with_reducible assumption)) | go_size)))).rows.own (1 + m) hm5) (by rfl) (by rfl) (by exact World.news_of_block (heap_alloc_new _ _)) (by intro u hu; simp at hu; rcases hu with rfl; rfl) (by omega) (by omega) (by decide) (by simp; omega) ?_; intro a1 c1 w1 hown1 hg1 hb1; obtain ⟨f0, f1, f2, f3, hsz1, HX⟩ := turn_step HW.out HB.out hsb2 hsz hsc c0 cm fm HSN.out hm5 (by (repeat' (first | (with_reducible exact Below.refl _ _) | (with_reducible assumption) | (with_reducible refine Below.alloc ?_ ?_ _) | (with_reducible refine Below.drew ?_) | (with_reducible refine Below.draws ?_ _) | (with_reducible refine Below.setCell ?_ ?_ _) | (refine Below.then ?_ (by with_reducible assumption)) | go_size))) (by simp) (ownsI_snoc hown1) hg1 hb1; clear hown1 hg1 hb1))
            all_goals (go_wp2_with fail; go_meet; exact ⟨a1, c1, HX.out.1, HX.out.2.1, by simpa using hsz1, HX.out.2.2.1, HX.out.2.2.2⟩)
          case rest =>
            obtain ⟨a1, c1, hW1, hsc1, hsz1, hsn1, hB1⟩ := hcut
            have hX0 : updF (rowOf T) (1 + m) (rowOf T (1 + m) ++ [((h 0).n : Int)]) 0 = T := by rw [updF_other _ _ (by omega)]; rfl
            have hn1 := hW1.rows.len (show 0 < 5 by omega)
            rw [hX0] at hn1
            have hn0 : (h 0).n = T.length := (HW.out.rows.len (show 0 < 5 by omega)).symm
            have HN0 := Lib.hid hn0
            have HX0 := Lib.hid hX0
            have hsz2 : sb < wc.heap.size := by omega
            clear hX0 hn0 hsc hsz c0 cm fm hq1
            generalize updF h (1 + m) ⟨a1, (h (1 + m)).n + 1, c1⟩ = h' at *
            have c0 := hW1.at_ 0 (by omega)
            have fm := hW1.fz (w.heap.size + 1) 0 (by omega) (by omega)
            have hl1 := hW1.lt
            have hn1' : (h' 0).n ≤ 400 := by omega
            have HW1 := Lib.hid hW1; have HSN1 := Lib.hid hsn1; have HB1 := Lib.hid hB1
            clear hW1 hsn1 hB1 hn1
            go_wp2_with (at_builtin; refine wpList_push2 rfl _ _ _ rfl e1 rfl (HW1.out.rows.own 0 (by omega)) rfl rfl (by intro u hu; simp at hu; rcases hu with rfl; rfl) (by omega) (by decide) hl1 ?_; intro a2 c2 w2 hown2 hg2 hb2; obtain ⟨f0, f1, f2, f3, hsz3, HX⟩ := turn_step HW1.out HB1.out hsb2 hsz2 hsc1 c0 c0 fm HSN1.out (by omega) (by (repeat' (first | (with_reducible exact Below.refl _ _) | (with_reducible assumption) | (with_reducible refine Below.alloc ?_ ?_ _) | (with_reducible refine Below.drew ?_) | (with_reducible refine Below.draws ?_ _) | (with_reducible refine Below.setCell ?_ ?_ _) | (refine Below.then ?_ (by with_reducible assumption)) | go_size))) (by simp) (ownsI_snoc hown2) hg2 (hb2.imp id (fun e => e.trans (by simp))); clear hown2 hg2 hb2)
            go_roundw
            case rel =>
              refine ⟨j + 1, T ++ [(m : Int)], _, by omega, by go_num, (HX.out.1).congr ?_, ?_, HX.out.2.1, by simp; omega, HX.out.2.2.1, HX.out.2.2.2⟩
              · intro i hi
                rw [HN0.out]
                exact rowOf_snoc T m hm4 i hi
              · have := HE.out
                rw [show span - j = (span - (j + 1)) + 1 by omega, List.replicate_succ] at this
                rw [← this]; simp
            case measure => simp [intOf]; omega
        · clear hW hsn hsc hB
          have HE3 : Hid (T ++ tableS (l.drop (k + 1)) = R) := Lib.hid (by have := HE.out; rw [show span - j = 0 by omega] at this; simpa using this)
          clear he
          go_wp2
          go_roundw
          case rel => exact ⟨k + 1, T, h, by omega, by go_num, HW.out, HE3.out, HB.out⟩
          case measure => simp [intOf]; omega
    · have hv : R = T := by rw [← HE.out, drop_end HL.out (by omega)]; simp [tableS]
      subst hv
      have c0 := HW.out.at_ 0 (by omega)
      have c1 := HW.out.at_ 1 (by omega)
      have c2 := HW.out.at_ 2 (by omega)
      have c3 := HW.out.at_ 3 (by omega)
      have c4 := HW.out.at_ 4 (by omega)
      have d0 := HW.out.res 0 (by omega)
      have d1 := HW.out.res 1 (by omega)
      have d2 := HW.out.res 2 (by omega)
      have d3 := HW.out.res 3 (by omega)
      have d4 := HW.out.res 4 (by omega)
      have f0 := HW.out.fz w.heap.size 0 (by omega) (by omega)
      have f1 := HW.out.fz w.heap.size 1 (by omega) (by omega)
      have f2 := HW.out.fz w.heap.size 2 (by omega) (by omega)
      have f3 := HW.out.fz w.heap.size 3 (by omega) (by omega)
      have f4 := HW.out.fz w.heap.size 4 (by omega) (by omega)
      go_wp2
      refine bodyPost_ret (v := whV h) (by simp [results, Try.results45, go_sem, d0, d1, d2, d3, d4]) rfl ⟨h, rfl, ?_, ?_⟩
      · have hr := (((((HW.out.rows.far (q := w.heap.size) (j := 0) (by omega) (sl (h 0))).far (q := w.heap.size) (j := 1) (by omega) (sl (h 1))).far (q := w.heap.size) (j := 2) (by omega) (sl (h 2))).far (q := w.heap.size) (j := 3) (by omega) (sl (h 3))).far (q := w.heap.size) (j := 4) (by omega) (sl (h 4)))
        exact ⟨fun i hi => owns_mono (hr.own i hi) (by omega), hr.apart⟩
      · exact ((((HB.out.setCell (Nat.le_refl _) _).setCell (Nat.le_refl _) _).setCell (Nat.le_refl _) _).setCell (Nat.le_refl _) _).setCell (Nat.le_refl _) _
end Go.Proofs.Ytgldgomjlcojaaa
