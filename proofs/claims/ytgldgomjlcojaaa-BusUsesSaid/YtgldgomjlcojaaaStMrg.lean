/- The contract of slices.symMergeCmpFunc at ints, at a row that the call made. The conditions: the row is the caller's own; the comparison leaves it alone; the two parts are sorted. -/
import Derived.Test.YtgldgomjlcojaaaStSwap
namespace Go.Proofs.Ytgldgomjlcojaaa
open Go.RowKit
set_option linter.unusedSimpArgs false
set_option linter.unusedVariables false
theorem set2_list' {α : Type} (A B C : List α) (x y : α) {i j : Nat} (hi : A.length = i) (hj : i + 1 + B.length = j) : ((A ++ x :: (B ++ y :: C)).set j x).set i y = A ++ y :: (B ++ x :: C) := by
  rw [List.set_comm _ _ (by omega)]; exact set2_list A B C x y hi hj
section
variable {α : Type} {lt : α → α → Bool}
theorem mem_take_get {l : List α} {k : Nat} {z : α} (h : z ∈ l.take k) : ∃ t, t < k ∧ l[t]? = some z := by
  obtain ⟨t, ht, e⟩ := List.getElem_of_mem h
  rw [List.length_take] at ht
  refine ⟨t, by omega, ?_⟩
  rw [List.getElem_take] at e
  rw [← e]; exact List.getElem?_eq_getElem (by omega)
theorem mem_drop_get {l : List α} {k : Nat} {z : α} (h : z ∈ l.drop k) : ∃ t, k ≤ t ∧ l[t]? = some z := by
  obtain ⟨t, ht, e⟩ := List.getElem_of_mem h
  rw [List.length_drop] at ht
  refine ⟨k + t, by omega, ?_⟩
  rw [List.getElem_drop] at e
  rw [← e]; exact List.getElem?_eq_getElem (by omega)
theorem srt_le (h : Swo lt) {l : List α} (hs : Srt lt l) {i j : Nat} {x y : α} (hij : i ≤ j) (hx : l[i]? = some x) (hy : l[j]? = some y) : lt y x = false := by
  rcases Nat.lt_or_eq_of_le hij with e | rfl
  · exact srt_get hs e hx hy
  · rw [hx] at hy; obtain rfl := Option.some.inj hy; exact h.irr _
theorem srt_take1 (h : Swo lt) {l : List α} (hs : Srt lt l) {k : Nat} {x y : α} (hy : l[k]? = some y) (hl : lt y x = true) : ∀ z ∈ l.take (k + 1), lt z x = true := by
  intro z hz
  obtain ⟨t, ht, e⟩ := mem_take_get hz
  exact h.le_lt (srt_le h hs (by omega) e hy) hl
theorem srt_drop0 (h : Swo lt) {l : List α} (hs : Srt lt l) {k : Nat} {x y : α} (hy : l[k]? = some y) (hl : lt y x = false) : ∀ z ∈ l.drop k, lt z x = false := by
  intro z hz
  obtain ⟨t, ht, e⟩ := mem_drop_get hz
  exact h.ntr _ _ _ (srt_le h hs ht hy e) hl
theorem srt_take0 (h : Swo lt) {l : List α} (hs : Srt lt l) {k : Nat} {x y : α} (hy : l[k]? = some y) (hl : lt x y = false) : ∀ z ∈ l.take (k + 1), lt x z = false := by
  intro z hz
  obtain ⟨t, ht, e⟩ := mem_take_get hz
  exact h.ntr _ _ _ hl (srt_le h hs (by omega) e hy)
theorem srt_drop1 (h : Swo lt) {l : List α} (hs : Srt lt l) {k : Nat} {x y : α} (hy : l[k]? = some y) (hl : lt x y = true) : ∀ z ∈ l.drop k, lt x z = true := by
  intro z hz
  obtain ⟨t, ht, e⟩ := mem_drop_get hz
  exact h.lt_le hl (srt_le h hs ht hy e)
end
/-- what a merge leaves behind -/
def MrgP (B : Nat) (w : World) (b n c : Nat) (cf : Int → Int → Int) (P A D S : List Int) (e : Ending) (w' : World) : Prop :=
  ∃ R, Mrg (ltOf cf) A D R ∧ SortP B w b n c (P ++ (R ++ S)) e w'
set_option maxRecDepth 100000 in
set_option maxHeartbeats 4000000 in
theorem symA1 {cf : Int → Int → Int} (hw : Swo (ltOf cf)) (g : Nat) (cb : Array Value) (B b n c a m e : Nat) (x : Int) (P D S : List Int) (w : World) (hn : n ≤ 1000) (hO : w.ownsRow B 3 1 (.slice (some ⟨b, 0, none⟩) n c) n ((P ++ ([x] ++ (D ++ S))).flatMap enc1))
    (ha : P.length = a) (hm : a + 1 = m) (he : m + D.length = e) (hD0 : m < e) (hC : CmpOn g cb cf b (x :: D) w) (hD : Srt (ltOf cf) D) :
    Calls Try.prog 80 #[.slice (some ⟨b, 0, none⟩) n c, .int .i64 a, .int .i64 m, .int .i64 e, .func (.func g) #[] cb] w (MrgP B w b n c cf P [x] D S) := by
  have hlen : (P ++ ([x] ++ (D ++ S))).length = n := (ownsI_rd hO).length
  simp only [List.length_append, List.length_cons, List.length_nil] at hlen
  have hen : e ≤ n := by omega
  have eg := hC.eg
  have HC := Lib.hid hC
  have HO0 := Lib.hid hO; have HA := Lib.hid ha; have HM := Lib.hid hm; have HE := Lib.hid he; have HD := Lib.hid hD
  have t1 : (m : Int) - (a : Int) = 1 := by omega
  obtain ⟨x', hx', c1, f1, hbw⟩ := ownsI_at hO a (by omega)
  have g1 : (P ++ ([x] ++ (D ++ S)))[a]? = some x := by rw [List.getElem?_append_right (by omega), ha, Nat.sub_self]; rfl
  rw [g1] at hx'
  obtain rfl : x = x' := by simpa using hx'
  have C1 := Lib.hid c1
  have i0 : a < n := by omega
  have hmn : m ≤ n := by omega
  clear hO ha hm he hD hC hlen g1 hx' c1 f1
  go_enter Try.func80, Try.ntmps80
  go_wp2
  go_loopw [10, 11] (fun u v wr => ∃ i j : Nat, u = .int .i64 i ∧ v = .int .i64 j ∧ m ≤ i ∧ i ≤ j ∧ j ≤ e ∧ (∀ y ∈ D.take (i - m), ltOf cf y x = true) ∧ (∀ y ∈ D.drop (j - m), ltOf cf y x = false) ∧ wr.ownsRow B 3 1 (.slice (some ⟨b, 0, none⟩) n c) n ((P ++ ([x] ++ (D ++ S))).flatMap enc1) ∧ w.grownBy wr (some b)) (fun u v _ => (intOf v).toNat - (intOf u).toNat)
  case atStart => exact ⟨m, e, rfl, rfl, Nat.le_refl _, by omega, Nat.le_refl _, by simp, by have := HE.out; rw [List.drop_of_length_le (by omega)]; simp, HO0.out, World.grownBy.refl _ _⟩
  case round =>
    obtain ⟨i, j, rfl, rfl, hi, hij, hje, h1, h2, hO, hG⟩ := hrel
    have H1 := Lib.hid h1; have H2 := Lib.hid h2; have HO := Lib.hid hO; have HG := Lib.hid hG
    clear h1 h2 hO hG HO0
    obtain ⟨wo, rfl⟩ : ∃ wo : World, wo = wr := ⟨_, rfl⟩
    by_cases hlt : i < j
    · obtain ⟨h, hh⟩ : ∃ h, (i + j) / 2 = h := ⟨_, rfl⟩
      have hhj : h < j := by omega
      have hhi : i ≤ h := by omega
      have hhn : h < n := by omega
      have e5 : ((i : Int) + (j : Int)) / 2 = (h : Int) := by omega
      have hk : h - m < D.length := by have := HE.out; omega
      obtain ⟨y, hy⟩ : ∃ y, D[h - m]? = some y := ⟨_, List.getElem?_eq_getElem hk⟩
      have g2 : (P ++ ([x] ++ (D ++ S)))[h]? = some y := by
        rw [← List.append_assoc, List.getElem?_append_right (by rw [List.length_append, HA.out, List.length_singleton]; have := HM.out; omega), List.length_append, HA.out, List.length_singleton, HM.out, List.getElem?_append_left hk]; exact hy
      obtain ⟨y', hy', c2, f2, hbw2⟩ := ownsI_at HO.out h hhn
      obtain ⟨x', hx', c1, f1, _⟩ := ownsI_at HO.out a i0
      have g1 : (P ++ ([x] ++ (D ++ S)))[a]? = some x := by rw [List.getElem?_append_right (by rw [HA.out]; exact Nat.le_refl _), HA.out, Nat.sub_self]; rfl
      rw [g1] at hx'; rw [g2] at hy'
      obtain rfl : x = x' := by simpa using hx'
      obtain rfl : y = y' := by simpa using hy'
      have HYM := Lib.hid (show y ∈ x :: D from List.mem_cons_of_mem _ (List.mem_of_getElem? hy))
      have HY := Lib.hid hy
      clear hx' hy' hy g1 g2 hh hk f1 f2
      by_cases hl : cf y x < 0
      · have HL := Lib.hid hl
        go_wp2_with (refine wp_region_later_lit (by kernel_rfl) (by kernel_rfl) ?_; (repeat (go_big_quiet_step ((go_at_fn g; exact later_of (HC.out.gives _ y x (grownB HG.out (After.below _)) HYM.out (by simp)))))); refine wpQuiet_nil ?_; intro w3 hb3)
        go_roundw
        case rel =>
          refine ⟨h + 1, j, by go_num, rfl, by omega, by omega, by omega, ?_, H2.out, owns_ext HO.out hb3, grownB HG.out hb3⟩
          rw [show h + 1 - m = h - m + 1 by omega]
          exact srt_take1 hw HD.out HY.out (decide_eq_true HL.out)
        case measure => simp [intOf]; omega
      · have HL := Lib.hid hl
        have hl' : decide (cf y x < 0) = false := by simpa using hl
        go_wp2_with (refine wp_region_later_lit (by kernel_rfl) (by kernel_rfl) ?_; (repeat (go_big_quiet_step ((go_at_fn g; exact later_of (HC.out.gives _ y x (grownB HG.out (After.below _)) HYM.out (by simp)))))); refine wpQuiet_nil ?_; intro w3 hb3)
        go_roundw
        case rel =>
          refine ⟨i, h, rfl, by go_num, by omega, by omega, by omega, H1.out, ?_, owns_ext HO.out hb3, grownB HG.out hb3⟩
          exact srt_drop0 hw HD.out HY.out (decide_eq_false HL.out)
        case measure => simp [intOf]; omega
    · obtain rfl : i = j := by omega
      obtain ⟨I, hI⟩ : ∃ I, m + I = i := ⟨i - m, by omega⟩
      have hIm : i - m = I := by omega
      have hID : I ≤ D.length := by have := HE.out; omega
      have hia : (i : Int) - 1 = ((a + I : Nat) : Int) := by have := HM.out; omega
      rw [hIm] at H1 H2
      have HID := Lib.hid hID
      clear hI hIm
      go_wp2
      go_loopw [13] (fun v wr => ∃ t : Nat, t ≤ I ∧ v = .int .i64 ((a + t : Nat) : Int) ∧ wr.ownsRow B 3 1 (.slice (some ⟨b, 0, none⟩) n c) n ((P ++ ((D.take t ++ x :: D.drop t) ++ S)).flatMap enc1) ∧ wo.grownBy wr (some b)) (fun v _ => (a + I) - (intOf v).toNat)
      case atStart => exact ⟨0, Nat.zero_le _, rfl, by simpa using HO.out, World.grownBy.refl _ _⟩
      case round =>
        obtain ⟨t, ht, rfl, hO2, hG2⟩ := hrel
        have HO2 := Lib.hid hO2; have HG2 := Lib.hid hG2
        clear hO2 hG2 HO
        obtain ⟨wp, rfl⟩ : ∃ wp : World, wp = wr := ⟨_, rfl⟩
        by_cases hlt2 : t < I
        · have hyt : t < D.length := by omega
          obtain ⟨y, hy⟩ : ∃ y, D[t] = y := ⟨_, rfl⟩
          have e0 : P ++ ((D.take t ++ x :: D.drop t) ++ S) = (P ++ D.take t) ++ x :: ([] ++ y :: (D.drop (t + 1) ++ S)) := by
            rw [List.drop_eq_getElem_cons hyt, hy]; simp
          have e3 : (P ++ D.take t) ++ y :: ([] ++ x :: (D.drop (t + 1) ++ S)) = P ++ ((D.take (t + 1) ++ x :: D.drop (t + 1)) ++ S) := by
            rw [List.take_add_one, List.getElem?_eq_getElem hyt, hy]; simp
          have hl1 : (P ++ D.take t).length = a + t := by rw [List.length_append, List.length_take, HA.out]; omega
          obtain ⟨g1, g2⟩ := get2_list (P ++ D.take t) [] (D.drop (t + 1) ++ S) x y hl1 (j := a + t + 1) rfl
          have HS := Lib.hid (set2_list (P ++ D.take t) [] (D.drop (t + 1) ++ S) x y hl1 (j := a + t + 1) rfl)
          have HE3 := Lib.hid e3
          rw [e0] at HO2
          have hpn : a + t + 1 < n := by have := HE.out; have := HM.out; omega
          obtain ⟨x', hx', c1, f1, hbw2⟩ := ownsI_at HO2.out (a + t) (by omega)
          obtain ⟨y', hy', c2, f2, _⟩ := ownsI_at HO2.out (a + t + 1) hpn
          rw [g1] at hx'; rw [g2] at hy'
          obtain rfl : x = x' := by simpa using hx'
          obtain rfl : y = y' := by simpa using hy'
          obtain ⟨p, hp⟩ : ∃ p, a + t = p := ⟨_, rfl⟩
          rw [hp] at c1 c2 f1 f2
          have k1 : ((a + t : Nat) : Int) = (p : Int) := by omega
          have k2 : (p : Int) < (i : Int) - 1 := by omega
          have k3 : p < n := by omega
          have k4 : p + 1 < n := by omega
          rw [k1]
          clear e0 e3 hl1 g1 g2 hy hx' hy' hyt hia
          go_wp2
          go_big_region
          go_wp2
          go_roundw
          case rel =>
            refine ⟨t + 1, hlt2, by go_num, ?_, ?_⟩
            · have h5 := (ownsI_set (ownsI_set HO2.out p y) (p + 1) x).drew
              rw [← hp, HS.out, HE3.out] at h5
              rw [← hp]
              exact h5
            · exact drewG (setG (setG HG2.out _ _) _ _)
          case measure => simp [intOf]; omega
        · obtain rfl : t = I := by omega
          have k2 : ¬ ((a + t : Nat) : Int) < (i : Int) - 1 := by omega
          have k3 : decide (((a + t : Nat) : Int) < (i : Int) - 1) = false := by simp; omega
          go_wp2
          go_end0
          refine ⟨D.take t ++ x :: D.drop t, ?_, rfl, HO2.out, HG.out.trans HG2.out⟩
          have := Mrg.one (x := x) (B1 := D.take t) (B2 := D.drop t) hw (by rw [List.take_append_drop]; exact HD.out) H1.out H2.out
          rw [List.take_append_drop] at this
          exact this
set_option maxRecDepth 100000 in
set_option maxHeartbeats 4000000 in
theorem symB1 {cf : Int → Int → Int} (hw : Swo (ltOf cf)) (g : Nat) (cb : Array Value) (B b n c a m e : Nat) (x : Int) (P A S : List Int) (w : World) (hn : n ≤ 1000) (hO : w.ownsRow B 3 1 (.slice (some ⟨b, 0, none⟩) n c) n ((P ++ (A ++ ([x] ++ S))).flatMap enc1))
    (ha : P.length = a) (hm : a + A.length = m) (he : m + 1 = e) (hA1 : A.length ≠ 1) (hA0 : a < m) (hC : CmpOn g cb cf b (x :: A) w) (hA : Srt (ltOf cf) A) :
    Calls Try.prog 80 #[.slice (some ⟨b, 0, none⟩) n c, .int .i64 a, .int .i64 m, .int .i64 e, .func (.func g) #[] cb] w (MrgP B w b n c cf P A [x] S) := by
  have hlen : (P ++ (A ++ ([x] ++ S))).length = n := (ownsI_rd hO).length
  simp only [List.length_append, List.length_cons, List.length_nil] at hlen
  have hen : e ≤ n := by omega
  have eg := hC.eg
  have HC := Lib.hid hC
  have HO0 := Lib.hid hO; have HA := Lib.hid ha; have HM := Lib.hid hm; have HE := Lib.hid he; have HSA := Lib.hid hA
  have t1 : ¬ (m : Int) - (a : Int) = 1 := by omega
  have t2 : (e : Int) - (m : Int) = 1 := by omega
  have hgx : Hid ((P ++ (A ++ ([x] ++ S)))[m]? = some x) := Lib.hid (by rw [← List.append_assoc, List.getElem?_append_right (by rw [List.length_append]; omega), List.length_append, ha, hm, Nat.sub_self]; rfl)
  have i0 : m < n := by omega
  have hmn : m ≤ n := by omega
  clear hO ha hm he hA hC hlen
  go_enter Try.func80, Try.ntmps80
  go_wp2
  go_loopw [14, 15] (fun u v wr => ∃ i j : Nat, u = .int .i64 i ∧ v = .int .i64 j ∧ a ≤ i ∧ i ≤ j ∧ j ≤ m ∧ (∀ y ∈ A.take (i - a), ltOf cf x y = false) ∧ (∀ y ∈ A.drop (j - a), ltOf cf x y = true) ∧ wr.ownsRow B 3 1 (.slice (some ⟨b, 0, none⟩) n c) n ((P ++ (A ++ ([x] ++ S))).flatMap enc1) ∧ w.grownBy wr (some b)) (fun u v _ => (intOf v).toNat - (intOf u).toNat)
  case atStart => exact ⟨a, m, rfl, rfl, Nat.le_refl _, by omega, Nat.le_refl _, by simp, by have := HM.out; rw [List.drop_of_length_le (by omega)]; simp, HO0.out, World.grownBy.refl _ _⟩
  case round =>
    obtain ⟨i, j, rfl, rfl, hi, hij, hje, h1, h2, hO, hG⟩ := hrel
    have H1 := Lib.hid h1; have H2 := Lib.hid h2; have HO := Lib.hid hO; have HG := Lib.hid hG
    clear h1 h2 hO hG HO0
    obtain ⟨wo, rfl⟩ : ∃ wo : World, wo = wr := ⟨_, rfl⟩
    by_cases hlt : i < j
    · obtain ⟨h, hh⟩ : ∃ h, (i + j) / 2 = h := ⟨_, rfl⟩
      have hhj : h < j := by omega
      have hhi : i ≤ h := by omega
      have hhn : h < n := by omega
      have e5 : ((i : Int) + (j : Int)) / 2 = (h : Int) := by omega
      have hk : h - a < A.length := by have := HM.out; omega
      obtain ⟨y, hy⟩ : ∃ y, A[h - a]? = some y := ⟨_, List.getElem?_eq_getElem hk⟩
      have g2 : (P ++ (A ++ ([x] ++ S)))[h]? = some y := by
        rw [List.getElem?_append_right (by rw [HA.out]; omega), HA.out, List.getElem?_append_left hk]; exact hy
      obtain ⟨y', hy', c2, f2, hbw⟩ := ownsI_at HO.out h hhn
      obtain ⟨x', hx', c1, f1, _⟩ := ownsI_at HO.out m i0
      rw [hgx.out] at hx'; rw [g2] at hy'
      obtain rfl : x = x' := by simpa using hx'
      obtain rfl : y = y' := by simpa using hy'
      have HYM := Lib.hid (show y ∈ x :: A from List.mem_cons_of_mem _ (List.mem_of_getElem? hy))
      have HY := Lib.hid hy
      clear hx' hy' hy g2 hh hk f1 f2
      by_cases hl : cf x y < 0
      · have HL := Lib.hid hl
        go_wp2_with (refine wp_region_later_lit (by kernel_rfl) (by kernel_rfl) ?_; (repeat (go_big_quiet_step ((go_at_fn g; exact later_of (HC.out.gives _ x y (grownB HG.out (After.below _)) (by simp) HYM.out))))); refine wpQuiet_nil ?_; intro w3 hb3)
        go_roundw
        case rel =>
          refine ⟨i, h, rfl, by go_num, by omega, by omega, by omega, H1.out, ?_, owns_ext HO.out hb3, grownB HG.out hb3⟩
          exact srt_drop1 hw HSA.out HY.out (decide_eq_true HL.out)
        case measure => simp [intOf]; omega
      · have HL := Lib.hid hl
        have hl' : decide (cf x y < 0) = false := by simpa using hl
        go_wp2_with (refine wp_region_later_lit (by kernel_rfl) (by kernel_rfl) ?_; (repeat (go_big_quiet_step ((go_at_fn g; exact later_of (HC.out.gives _ x y (grownB HG.out (After.below _)) (by simp) HYM.out))))); refine wpQuiet_nil ?_; intro w3 hb3)
        go_roundw
        case rel =>
          refine ⟨h + 1, j, by go_num, rfl, by omega, by omega, by omega, ?_, H2.out, owns_ext HO.out hb3, grownB HG.out hb3⟩
          rw [show h + 1 - a = h - a + 1 by omega]
          exact srt_take0 hw HSA.out HY.out (decide_eq_false HL.out)
        case measure => simp [intOf]; omega
    · obtain rfl : i = j := by omega
      obtain ⟨I, hI⟩ : ∃ I, a + I = i := ⟨i - a, by omega⟩
      have hIm : i - a = I := by omega
      have hID : I ≤ A.length := by have := HM.out; omega
      rw [hIm] at H1 H2
      have HI := Lib.hid hI
      clear hIm hI
      go_wp2
      go_loopw [17] (fun v wr => ∃ t : Nat, I ≤ t ∧ t ≤ A.length ∧ v = .int .i64 ((a + t : Nat) : Int) ∧ wr.ownsRow B 3 1 (.slice (some ⟨b, 0, none⟩) n c) n ((P ++ ((A.take t ++ x :: A.drop t) ++ S)).flatMap enc1) ∧ wo.grownBy wr (some b)) (fun v _ => (intOf v).toNat)
      case atStart => exact ⟨A.length, hID, Nat.le_refl _, by rw [HM.out], by rw [List.take_length, List.drop_length]; simpa using HO.out, World.grownBy.refl _ _⟩
      case round =>
        obtain ⟨t, hIt, ht, rfl, hO2, hG2⟩ := hrel
        have HO2 := Lib.hid hO2; have HG2 := Lib.hid hG2
        clear hO2 hG2 HO
        obtain ⟨wp, rfl⟩ : ∃ wp : World, wp = wr := ⟨_, rfl⟩
        by_cases hlt2 : I < t
        · obtain ⟨u, rfl⟩ : ∃ u, t = u + 1 := ⟨t - 1, by omega⟩
          have hyt : u < A.length := by omega
          obtain ⟨y, hy⟩ : ∃ y, A[u] = y := ⟨_, rfl⟩
          have e0 : P ++ ((A.take (u + 1) ++ x :: A.drop (u + 1)) ++ S) = (P ++ A.take u) ++ y :: ([] ++ x :: (A.drop (u + 1) ++ S)) := by
            rw [List.take_add_one, List.getElem?_eq_getElem hyt, hy]; simp
          have e3 : (P ++ A.take u) ++ x :: ([] ++ y :: (A.drop (u + 1) ++ S)) = P ++ ((A.take u ++ x :: A.drop u) ++ S) := by
            rw [List.drop_eq_getElem_cons hyt, hy]; simp
          have hl1 : (P ++ A.take u).length = a + u := by rw [List.length_append, List.length_take, HA.out]; omega
          obtain ⟨g1, g2⟩ := get2_list (P ++ A.take u) [] (A.drop (u + 1) ++ S) y x hl1 (j := a + u + 1) rfl
          have HS := Lib.hid (set2_list' (P ++ A.take u) [] (A.drop (u + 1) ++ S) y x hl1 (j := a + u + 1) rfl)
          have HE3 := Lib.hid e3
          rw [e0] at HO2
          have hpn : a + u + 1 < n := by have := HE.out; have := HM.out; omega
          obtain ⟨y', hy', c1, f1, hbw2⟩ := ownsI_at HO2.out (a + u) (by omega)
          obtain ⟨x', hx', c2, f2, _⟩ := ownsI_at HO2.out (a + u + 1) hpn
          rw [g1] at hy'; rw [g2] at hx'
          obtain rfl : x = x' := by simpa using hx'
          obtain rfl : y = y' := by simpa using hy'
          obtain ⟨p, hp⟩ : ∃ p, a + u = p := ⟨_, rfl⟩
          rw [hp] at c1 c2 f1 f2
          have k1 : ((a + (u + 1) : Nat) : Int) = (p : Int) + 1 := by omega
          have k2 : (p : Int) + 1 > (i : Int) := by have := HI.out; omega
          have k3 : p < n := by omega
          have k4 : p + 1 < n := by omega
          rw [k1]
          clear e0 e3 hl1 g1 g2 hy hx' hy' hyt
          go_wp2
          go_big_region
          go_wp2
          go_roundw
          case rel =>
            refine ⟨u, by omega, by omega, by rw [hp], ?_, ?_⟩
            · have h5 := (ownsI_set (ownsI_set HO2.out (p + 1) y) p x).drew
              rw [← hp, HS.out, HE3.out] at h5
              rw [← hp]
              exact h5
            · exact drewG (setG (setG HG2.out _ _) _ _)
          case measure => simp [intOf]
        · obtain rfl : t = I := by omega
          have k2 : ¬ ((a + t : Nat) : Int) > (i : Int) := by have := HI.out; omega
          have k3 : decide (((a + t : Nat) : Int) > (i : Int)) = false := by simp; have := HI.out; omega
          go_wp2
          go_end0
          refine ⟨A.take t ++ x :: A.drop t, ?_, rfl, HO2.out, HG.out.trans HG2.out⟩
          have := Mrg.last (x := x) (A1 := A.take t) (A2 := A.drop t) hw (by rw [List.take_append_drop]; exact HSA.out) H1.out H2.out
          rw [List.take_append_drop] at this
          exact this
end Go.Proofs.Ytgldgomjlcojaaa
