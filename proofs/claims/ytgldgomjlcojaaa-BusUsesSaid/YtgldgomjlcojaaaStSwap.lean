/- The contracts of slices.swapRangeCmpFunc and rotateCmpFunc at ints, at a row that the call made. The conditions: the row is the caller's own. -/
import Derived.Test.YtgldgomjlcojaaaStPure
import Derived.Test.YtgldgomjlcojaaaTkSort
namespace Go.Proofs.Ytgldgomjlcojaaa
open Go.RowKit
set_option linter.unusedSimpArgs false
set_option linter.unusedVariables false
theorem set2_list {α : Type} (A B C : List α) (x y : α) {i j : Nat} (hi : A.length = i) (hj : i + 1 + B.length = j) : ((A ++ x :: (B ++ y :: C)).set i y).set j x = A ++ y :: (B ++ x :: C) := by
  subst hi; subst hj
  rw [List.set_append_right _ _ (by omega), Nat.sub_self, List.set_cons_zero, List.set_append_right _ _ (by omega)]
  rw [show A.length + 1 + B.length - A.length = B.length + 1 by omega, List.set_cons_succ, List.set_append_right _ _ (by omega), Nat.sub_self, List.set_cons_zero]
theorem get2_list {α : Type} (A B C : List α) (x y : α) {i j : Nat} (hi : A.length = i) (hj : i + 1 + B.length = j) : (A ++ x :: (B ++ y :: C))[i]? = some x ∧ (A ++ x :: (B ++ y :: C))[j]? = some y := by
  subst hi; subst hj
  constructor
  · rw [List.getElem?_append_right (by omega), Nat.sub_self]; rfl
  · rw [List.getElem?_append_right (by omega), show A.length + 1 + B.length - A.length = B.length + 1 by omega, List.getElem?_cons_succ, List.getElem?_append_right (by omega), Nat.sub_self]; rfl
set_option maxRecDepth 100000 in
set_option maxHeartbeats 4000000 in
theorem swapRange_any (g : Nat) (cb : Array Value) (B b n c a a2 k : Nat) (P X M Y S : List Int) (w : World) (hn : n ≤ 1000) (hO : w.ownsRow B 3 1 (.slice (some ⟨b, 0, none⟩) n c) n ((P ++ (X ++ (M ++ (Y ++ S)))).flatMap enc1))
    (ha : P.length = a) (hX : X.length = k) (hY : Y.length = k) (hb : a + k + M.length = a2) :
    Calls Try.prog 82 #[.slice (some ⟨b, 0, none⟩) n c, .int .i64 a, .int .i64 a2, .int .i64 k, .func (.func g) #[] cb] w (SortP B w b n c (P ++ (Y ++ (M ++ (X ++ S))))) := by
  have hlen : (P ++ (X ++ (M ++ (Y ++ S)))).length = n := (ownsI_rd hO).length
  simp only [List.length_append] at hlen
  have HO0 := Lib.hid hO
  have HA := Lib.hid ha; have HX := Lib.hid hX; have HY := Lib.hid hY; have HB := Lib.hid hb
  have hkn : a2 + k ≤ n := by omega
  have hle : a + k ≤ a2 := by omega
  clear hO ha hX hY hb hlen
  go_enter Try.func82, Try.ntmps82
  go_wp2
  go_loopw [10] (fun v wr => ∃ i : Nat, i ≤ k ∧ v = .int .i64 i ∧ wr.ownsRow B 3 1 (.slice (some ⟨b, 0, none⟩) n c) n ((P ++ ((Y.take i ++ X.drop i) ++ (M ++ ((X.take i ++ Y.drop i) ++ S)))).flatMap enc1) ∧ w.grownBy wr (some b)) (fun v _ => k - (intOf v).toNat)
  case atStart => exact ⟨0, Nat.zero_le _, rfl, by simpa using HO0.out, World.grownBy.refl _ _⟩
  case round =>
    obtain ⟨i, hik, rfl, hO, hG⟩ := hrel
    have HO := Lib.hid hO; have HG := Lib.hid hG
    clear hO hG HO0
    by_cases hlt : i < k
    · have hlt' : (i : Int) < (k : Int) := by omega
      have hxi : i < X.length := by rw [HX.out]; exact hlt
      have hyi : i < Y.length := by rw [HY.out]; exact hlt
      obtain ⟨x, hx⟩ : ∃ x, X[i] = x := ⟨_, rfl⟩
      obtain ⟨y, hy⟩ : ∃ y, Y[i] = y := ⟨_, rfl⟩
      have e0 : P ++ ((Y.take i ++ X.drop i) ++ (M ++ ((X.take i ++ Y.drop i) ++ S))) = (P ++ Y.take i) ++ x :: ((X.drop (i + 1) ++ (M ++ X.take i)) ++ y :: (Y.drop (i + 1) ++ S)) := by
        rw [List.drop_eq_getElem_cons hxi, List.drop_eq_getElem_cons hyi, hx, hy]; simp
      have e3 : (P ++ Y.take i) ++ y :: ((X.drop (i + 1) ++ (M ++ X.take i)) ++ x :: (Y.drop (i + 1) ++ S)) = P ++ ((Y.take (i + 1) ++ X.drop (i + 1)) ++ (M ++ ((X.take (i + 1) ++ Y.drop (i + 1)) ++ S))) := by
        rw [List.take_add_one, List.take_add_one, List.getElem?_eq_getElem hxi, List.getElem?_eq_getElem hyi, hx, hy]; simp
      have hl1 : (P ++ Y.take i).length = a + i := by rw [List.length_append, List.length_take, HA.out]; omega
      have hl2 : a + i + 1 + (X.drop (i + 1) ++ (M ++ X.take i)).length = a2 + i := by
        rw [List.length_append, List.length_append, List.length_drop, List.length_take, HX.out]; have := HB.out; omega
      have HO2 := Lib.hid hlt
      rw [e0] at HO
      obtain ⟨g1, g2⟩ := get2_list (P ++ Y.take i) (X.drop (i + 1) ++ (M ++ X.take i)) (Y.drop (i + 1) ++ S) x y hl1 hl2
      have HS := Lib.hid (set2_list (P ++ Y.take i) (X.drop (i + 1) ++ (M ++ X.take i)) (Y.drop (i + 1) ++ S) x y hl1 hl2)
      have HE3 := Lib.hid e3
      obtain ⟨x', hx', c1, f1, hbw⟩ := ownsI_at HO.out (a + i) (by omega)
      obtain ⟨y', hy', c2, f2, _⟩ := ownsI_at HO.out (a2 + i) (by omega)
      rw [g1] at hx'; rw [g2] at hy'
      obtain rfl : x = x' := by simpa using hx'
      obtain rfl : y = y' := by simpa using hy'
      clear e0 e3 hl1 hl2 g1 g2 hx hy hx' hy' hxi hyi
      obtain ⟨wo, rfl⟩ : ∃ wo : World, wo = wr := ⟨_, rfl⟩
      obtain ⟨p1, hp1⟩ : ∃ p1, a + i = p1 := ⟨_, rfl⟩
      obtain ⟨p2, hp2⟩ : ∃ p2, a2 + i = p2 := ⟨_, rfl⟩
      have i1 : (a : Int) + (i : Int) = (p1 : Int) := by omega
      have i2 : (a2 : Int) + (i : Int) = (p2 : Int) := by omega
      have i3 : p1 < n := by omega
      have i4 : p2 < n := by omega
      have i5 : ¬ p1 = p2 := by omega
      have i6 : ¬ p2 = p1 := by omega
      rw [hp1] at c1 f1
      rw [hp2] at c2 f2
      go_wp2
      go_big_region
      go_wp2
      go_roundw
      case rel =>
        refine ⟨i + 1, hlt, by go_num, ?_, ?_⟩
        · have h5 := (ownsI_set (ownsI_set HO.out p1 y) p2 x).drew
          rw [← hp1, ← hp2, HS.out, HE3.out] at h5
          rw [← hp1, ← hp2]
          exact h5
        · exact drewG (setG (setG HG.out _ _) _ _)
      case measure => simp [intOf]; omega
    · have hlt' : ¬ (i : Int) < (k : Int) := by omega
      obtain rfl : i = k := by omega
      go_wp2
      go_end0
      refine ⟨rfl, ?_, HG.out⟩
      have := HO.out
      rw [← HX.out, List.drop_length, List.take_length, HX.out, ← HY.out, List.drop_length, List.take_length, List.append_nil, List.append_nil] at this
      exact this
theorem SortP.then {B : Nat} {w0 w w1 : World} {b n c : Nat} {xs : List Int} (hg : w0.grownBy w (some b)) {e : Ending} (h : SortP B w b n c xs e w1) : SortP B w0 b n c xs e w1 := ⟨h.1, h.2.1, hg.trans h.2.2⟩
set_option maxRecDepth 100000 in
set_option maxHeartbeats 4000000 in
theorem rotate_any (g : Nat) (cb : Array Value) (B b n c a m e : Nat) (P U V S : List Int) (w : World) (hn : n ≤ 1000) (hO : w.ownsRow B 3 1 (.slice (some ⟨b, 0, none⟩) n c) n ((P ++ (U ++ (V ++ S))).flatMap enc1))
    (ha : P.length = a) (hu : a + U.length = m) (hv : m + V.length = e) (hu0 : a < m) (hv0 : m < e) :
    Calls Try.prog 81 #[.slice (some ⟨b, 0, none⟩) n c, .int .i64 a, .int .i64 m, .int .i64 e, .func (.func g) #[] cb] w (SortP B w b n c (P ++ (V ++ (U ++ S)))) := by
  have hlen : (P ++ (U ++ (V ++ S))).length = n := (ownsI_rd hO).length
  simp only [List.length_append] at hlen
  have hen : e ≤ n := by omega
  have HO0 := Lib.hid hO
  obtain ⟨R, hR⟩ : ∃ R, P ++ (V ++ (U ++ S)) = R := ⟨_, rfl⟩
  have HA := Lib.hid ha; have HU := Lib.hid hu; have HV := Lib.hid hv; have HR := Lib.hid hR
  rw [hR]
  clear hO ha hu hv hlen hR
  go_enter Try.func81, Try.ntmps81
  go_wp2
  go_loopw [10, 11] (fun v1 v2 wr => ∃ (i j : Nat) (P' X Y S' : List Int), v1 = .int .i64 i ∧ v2 = .int .i64 j ∧ X.length = i ∧ Y.length = j ∧ 0 < i ∧ 0 < j ∧ P'.length + i = m ∧ i + j ≤ e ∧ m + j ≤ e ∧ P' ++ (Y ++ (X ++ S')) = R ∧ wr.ownsRow B 3 1 (.slice (some ⟨b, 0, none⟩) n c) n ((P' ++ (X ++ (Y ++ S'))).flatMap enc1) ∧ w.grownBy wr (some b)) (fun v1 v2 _ => (intOf v1).toNat + (intOf v2).toNat)
  case atStart => exact ⟨m - a, e - m, P, U, V, S, by go_num, by go_num, by have := HU.out; omega, by have := HV.out; omega, by omega, by omega, by have := HA.out; omega, by omega, by omega, HR.out, HO0.out, World.grownBy.refl _ _⟩
  case round =>
    obtain ⟨i, j, P', X, Y, S', rfl, rfl, hX, hY, hi0, hj0, hP, hij, hje, hR, hO, hG⟩ := hrel
    have HO := Lib.hid hO; have HG := Lib.hid hG; have HR2 := Lib.hid hR; have HX := Lib.hid hX; have HY := Lib.hid hY; have HP := Lib.hid hP
    obtain ⟨q, hq⟩ : ∃ q : Nat, q = m - i := ⟨_, rfl⟩
    have hqm : q + i = m := by omega
    have HPq : Hid (P'.length = q) := Lib.hid (by omega)
    have i1 : (m : Int) - (i : Int) = (q : Int) := by omega
    clear hO hG hR hX hY hP HO0 HR HU HV HA hq
    obtain ⟨wo, rfl⟩ : ∃ wo : World, wo = wr := ⟨_, rfl⟩
    by_cases e1 : i = j
    · subst e1
      have HC : Hid (∀ {h}, Calls Try.prog 82 #[.slice (some ⟨b, 0, none⟩) n c, .int .i64 q, .int .i64 m, .int .i64 i, .func (.func h) #[] cb] wo (SortP B wo b n c (P' ++ (Y ++ ([] ++ (X ++ S')))))) := Lib.hid (swapRange_any _ cb B b n c q m i P' X [] Y S' wo hn HO.out HPq.out HX.out HY.out (by simpa using hqm))
      go_wp2_with (go_at_call 82; (with_reducible refine HC.out.mono ?_); rintro e w1 ⟨rfl, ho, hg⟩; have HO1 := Lib.hid ho; have HG1 := Lib.hid hg; clear ho hg)
      go_end0
      refine ⟨rfl, ?_, HG.out.trans HG1.out⟩
      rw [← HR2.out]; exact HO1.out
    · by_cases e2 : j < i
      · have e1' : ¬ (i : Int) = (j : Int) := by omega
        have e2' : (i : Int) > (j : Int) := by omega
        have hx : X = X.take j ++ X.drop j := (List.take_append_drop j X).symm
        have HC : Hid (∀ {h}, Calls Try.prog 82 #[.slice (some ⟨b, 0, none⟩) n c, .int .i64 q, .int .i64 m, .int .i64 j, .func (.func h) #[] cb] wo (SortP B wo b n c (P' ++ (Y ++ (X.drop j ++ (X.take j ++ S')))))) := Lib.hid (swapRange_any _ cb B b n c q m j P' (X.take j) (X.drop j) Y S' wo hn (by have := HO.out; rw [hx, List.append_assoc] at this; exact this) HPq.out (by rw [List.length_take, HX.out]; omega) HY.out (by rw [List.length_drop, HX.out]; omega))
        clear hx
        go_wp2_with (go_at_call 82; (with_reducible refine HC.out.mono ?_); rintro e w1 ⟨rfl, ho, hg⟩; have HO1 := Lib.hid ho; have HG1 := Lib.hid hg; clear ho hg)
        go_roundw
        case rel =>
          refine ⟨i - j, j, P' ++ Y, X.drop j, X.take j, S', by go_num, rfl, by rw [List.length_drop, HX.out], by rw [List.length_take, HX.out]; omega, by omega, hj0, by rw [List.length_append, HPq.out, HY.out]; omega, by omega, hje, ?_, ?_, HG.out.trans HG1.out⟩
          · rw [← HR2.out, ← List.append_assoc (X.take j), List.take_append_drop, List.append_assoc]
          · rw [List.append_assoc]; exact HO1.out
        case measure => simp [intOf]; omega
      · have e1' : ¬ (i : Int) = (j : Int) := by omega
        have e2' : ¬ (i : Int) > (j : Int) := by omega
        have hy : Y = Y.take (j - i) ++ Y.drop (j - i) := (List.take_append_drop _ Y).symm
        obtain ⟨q2, hq2⟩ : ∃ q2 : Nat, q2 = m + j - i := ⟨_, rfl⟩
        have i2 : (m : Int) + (j : Int) - (i : Int) = (q2 : Int) := by omega
        have HC : Hid (∀ {h}, Calls Try.prog 82 #[.slice (some ⟨b, 0, none⟩) n c, .int .i64 q, .int .i64 q2, .int .i64 i, .func (.func h) #[] cb] wo (SortP B wo b n c (P' ++ (Y.drop (j - i) ++ (Y.take (j - i) ++ (X ++ S')))))) := Lib.hid (swapRange_any _ cb B b n c q q2 i P' X (Y.take (j - i)) (Y.drop (j - i)) S' wo hn (by have := HO.out; rw [hy, List.append_assoc] at this; exact this) HPq.out HX.out (by rw [List.length_drop, HY.out]; omega) (by rw [List.length_take, HY.out]; omega))
        clear hy hq2
        go_wp2_with (go_at_call 82; (with_reducible refine HC.out.mono ?_); rintro e w1 ⟨rfl, ho, hg⟩; have HO1 := Lib.hid ho; have HG1 := Lib.hid hg; clear ho hg)
        go_roundw
        case rel =>
          refine ⟨i, j - i, P', Y.drop (j - i), Y.take (j - i), X ++ S', rfl, by go_num, by rw [List.length_drop, HY.out]; omega, by rw [List.length_take, HY.out]; omega, hi0, by omega, by rw [HPq.out]; omega, by omega, by omega, ?_, HO1.out, HG.out.trans HG1.out⟩
          rw [← HR2.out, ← List.append_assoc (Y.take (j - i)), List.take_append_drop]
        case measure => simp [intOf]; omega
end Go.Proofs.Ytgldgomjlcojaaa
