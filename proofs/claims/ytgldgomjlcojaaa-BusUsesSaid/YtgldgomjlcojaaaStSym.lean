/- The contract of slices.symMergeCmpFunc at ints, the whole. The conditions: the row is the caller's own; the comparison leaves it alone; the two parts are sorted. -/
import Derived.Test.YtgldgomjlcojaaaStMrg
import Derived.Deep.Cut
namespace Go.Proofs.Ytgldgomjlcojaaa
open Go.RowKit
set_option linter.unusedSimpArgs false
set_option linter.unusedVariables false
/-- where the two halves part -/
structure CutOk {α : Type} (lt : α → α → Bool) (A D : List α) (i j : Nat) : Prop where
  le1 : ∀ b ∈ D.take j, ∀ a ∈ A.drop i, lt b a = true
  le2 : ∀ a ∈ A.take i, ∀ b ∈ D.drop j, lt b a = false
theorem cutOk {α : Type} {lt : α → α → Bool} (h : Swo lt) {A D : List α} (hA : Srt lt A) (hD : Srt lt D) {i j : Nat}
    (h1 : i = 0 ∨ D.length ≤ j ∨ ∃ x y, A[i - 1]? = some x ∧ D[j]? = some y ∧ lt y x = false) (h2 : A.length ≤ i ∨ j = 0 ∨ ∃ x y, A[i]? = some x ∧ D[j - 1]? = some y ∧ lt y x = true) (hj : 0 < j ∨ j = 0) : CutOk lt A D i j := by
  constructor
  · intro b hb a ha
    obtain ⟨t, ht, e⟩ := mem_take_get hb
    obtain ⟨u, hu, e2⟩ := mem_drop_get ha
    have hul := (List.getElem?_eq_some_iff.1 e2).1
    rcases h2 with q | q | ⟨x, y, hx, hy, hl⟩
    · omega
    · omega
    · exact h.le_lt (srt_le h hD (show t ≤ j - 1 by omega) e hy) (h.lt_le hl (srt_le h hA hu hx e2))
  · intro a ha b hb
    obtain ⟨t, ht, e⟩ := mem_take_get ha
    obtain ⟨u, hu, e2⟩ := mem_drop_get hb
    have hul := (List.getElem?_eq_some_iff.1 e2).1
    rcases h1 with q | q | ⟨x, y, hx, hy, hl⟩
    · omega
    · omega
    · exact h.ntr _ _ _ (srt_le h hD hu hy e2) (h.ntr _ _ _ hl (srt_le h hA (show t ≤ i - 1 by omega) e hx))
theorem MrgP.join {cf : Int → Int → Int} (hw : Swo (ltOf cf)) {A D R1 R2 : List Int} {i j : Nat} (hA : Srt (ltOf cf) A) (hD : Srt (ltOf cf) D) (hc : CutOk (ltOf cf) A D i j) (h1 : Mrg (ltOf cf) (A.take i) (D.take j) R1) (h2 : Mrg (ltOf cf) (A.drop i) (D.drop j) R2) : Mrg (ltOf cf) A D (R1 ++ R2) := by
  have := Mrg.join hw h1 h2 (by rw [List.take_append_drop]; exact hA) (by rw [List.take_append_drop]; exact hD) hc.le1 hc.le2
  rw [List.take_append_drop, List.take_append_drop] at this
  exact this
theorem mrg_len {α : Type} {lt : α → α → Bool} {A D R : List α} (hp : R.Perm (A ++ D)) : R.length = A.length + D.length := by rw [hp.length_eq, List.length_append]
theorem srt_tk {α : Type} {lt : α → α → Bool} {A : List α} (h : Srt lt A) (i : Nat) : Srt lt (A.take i) := h.sublist (List.take_sublist _ _)
theorem srt_dr {α : Type} {lt : α → α → Bool} {A : List α} (h : Srt lt A) (i : Nat) : Srt lt (A.drop i) := h.sublist (List.drop_sublist _ _)
def SymIH (cf : Int → Int → Int) (g : Nat) (cb : Array Value) (B b n c f : Nat) : Prop := ∀ (a m e : Nat) (P A D S : List Int) (w : World), A.length + D.length ≤ f → w.ownsRow B 3 1 (.slice (some ⟨b, 0, none⟩) n c) n ((P ++ (A ++ (D ++ S))).flatMap enc1) →
    P.length = a → a + A.length = m → m + D.length = e → a < m → m < e → CmpOn g cb cf b (A ++ D) w → Srt (ltOf cf) A → Srt (ltOf cf) D →
    Calls Try.prog 80 #[.slice (some ⟨b, 0, none⟩) n c, .int .i64 a, .int .i64 m, .int .i64 e, .func (.func g) #[] cb] w (MrgP B w b n c cf P A D S)
set_option maxRecDepth 100000 in
set_option maxHeartbeats 8000000 in
theorem symC {cf : Int → Int → Int} (hw : Swo (ltOf cf)) (g : Nat) (cb : Array Value) (B b n c : Nat) (hn : n ≤ 1000) (f : Nat) (ih : SymIH cf g cb B b n c f) (a m e : Nat) (P A D S : List Int) (w : World) (hf : A.length + D.length ≤ f + 1) (hO : w.ownsRow B 3 1 (.slice (some ⟨b, 0, none⟩) n c) n ((P ++ (A ++ (D ++ S))).flatMap enc1))
    (ha : P.length = a) (hm : a + A.length = m) (he : m + D.length = e) (ham : a < m) (hme : m < e) (hC : CmpOn g cb cf b (A ++ D) w) (hA : Srt (ltOf cf) A) (hD : Srt (ltOf cf) D) (hA1 : ¬ A.length = 1) (hD1 : ¬ D.length = 1) (hkm : (a + e) / 2 < m) :
    Calls Try.prog 80 #[.slice (some ⟨b, 0, none⟩) n c, .int .i64 a, .int .i64 m, .int .i64 e, .func (.func g) #[] cb] w (MrgP B w b n c cf P A D S) := by
  have hlen : (P ++ (A ++ (D ++ S))).length = n := (ownsI_rd hO).length
  simp only [List.length_append] at hlen
  have hen : e ≤ n := by omega
  have eg := hC.eg
  obtain ⟨mid, hmid⟩ : ∃ mid, (a + e) / 2 = mid := ⟨_, rfl⟩
  obtain ⟨nn, hnn⟩ : ∃ nn, mid + m = nn := ⟨_, rfl⟩
  have e5 : ((a : Int) + (e : Int)) / 2 = (mid : Int) := by omega
  have t1 : ¬ (m : Int) - (a : Int) = 1 := by omega
  have t2 : ¬ (e : Int) - (m : Int) = 1 := by omega
  have e6 : (mid : Int) + (m : Int) = (nn : Int) := by omega
  have hma : a < mid := by omega
  have hme2 : mid < e := by omega
  have km : mid < m := by omega
  obtain ⟨s0, r0, ks, kr⟩ : ∃ s0 r0 : Nat, s0 + e = nn ∧ r0 = mid := ⟨nn - e, mid, by omega, rfl⟩
  have HC := Lib.hid hC; have HO0 := Lib.hid hO; have HPA := Lib.hid ha; have HAM := Lib.hid hm; have HDE := Lib.hid he; have HSA := Lib.hid hA; have HSD := Lib.hid hD; have HF := Lib.hid hf; have IH := Lib.hid ih
  have HMID := Lib.hid hmid
  clear hC hO ha hm he hA hD hf ih hlen hmid hkm
  have T : ((m : Int) > (mid : Int)) := by omega
  have KS : Hid ((s0 = a ∨ s0 + e = nn) ∧ a ≤ s0 ∧ s0 ≤ r0 ∧ r0 ≤ m ∧ r0 ≤ mid ∧ nn ≤ s0 + e ∧ (r0 = m ∨ r0 = mid)) := Lib.hid (by omega)
  have k7 : (nn : Int) - (e : Int) = (s0 : Int) := by omega
  have k8 : mid = r0 := kr.symm
  have K8 := Lib.hid k8
  clear kr k8
  go_enter Try.func80, Try.ntmps80
  go_wp2
  go_loopw [20, 21] (fun u v wr => ∃ s r : Nat, u = .int .i64 s ∧ v = .int .i64 r ∧ s0 ≤ s ∧ s ≤ r ∧ r ≤ r0 ∧ (s = s0 ∨ ∃ x y, A[s - 1 - a]? = some x ∧ D[nn - s - m]? = some y ∧ ltOf cf y x = false) ∧ (r = r0 ∨ ∃ x y, A[r - a]? = some x ∧ D[nn - 1 - r - m]? = some y ∧ ltOf cf y x = true) ∧ wr.ownsRow B 3 1 (.slice (some ⟨b, 0, none⟩) n c) n ((P ++ (A ++ (D ++ S))).flatMap enc1) ∧ w.grownBy wr (some b)) (fun u v _ => (intOf v).toNat - (intOf u).toNat)
  case atStart => have KS' := KS.out; exact ⟨s0, r0, by simp [*], by rw [K8.out], Nat.le_refl _, by omega, Nat.le_refl _, .inl rfl, .inl rfl, HO0.out, World.grownBy.refl _ _⟩
  case round =>
    obtain ⟨s, r, rfl, rfl, hs, hsr, hr, h1, h2, hO, hG⟩ := hrel
    have H1 := Lib.hid h1; have H2 := Lib.hid h2; have HO := Lib.hid hO; have HG := Lib.hid hG
    clear h1 h2 hO hG HO0
    obtain ⟨wo, rfl⟩ : ∃ wo : World, wo = wr := ⟨_, rfl⟩
    by_cases hlt : s < r
    · as_aux_lemma =>
      have KS' := KS.out
      obtain ⟨h, hh⟩ : ∃ h, (s + r) / 2 = h := ⟨_, rfl⟩
      obtain ⟨q, hq⟩ : ∃ q : Nat, q = nn - 1 - h := ⟨_, rfl⟩
      have hhr : h < r := by omega
      have hsh : s ≤ h := by omega
      have e7 : ((s : Int) + (r : Int)) / 2 = (h : Int) := by omega
      have hqm : m ≤ q := by omega
      have hqe : q < e := by omega
      have e8 : (nn : Int) - 1 - (h : Int) = (q : Int) := by omega
      have hhn : h < n := by omega
      have hqn : q < n := by omega
      have hk1 : h - a < A.length := by have := HAM.out; omega
      have hk2 : q - m < D.length := by have := HDE.out; omega
      obtain ⟨x, hx⟩ : ∃ x, A[h - a]? = some x := ⟨_, List.getElem?_eq_getElem hk1⟩
      obtain ⟨y, hy⟩ : ∃ y, D[q - m]? = some y := ⟨_, List.getElem?_eq_getElem hk2⟩
      have g1 : (P ++ (A ++ (D ++ S)))[h]? = some x := by
        rw [List.getElem?_append_right (by rw [HPA.out]; omega), HPA.out, List.getElem?_append_left hk1]; exact hx
      have g2 : (P ++ (A ++ (D ++ S)))[q]? = some y := by
        rw [← List.append_assoc, List.getElem?_append_right (by rw [List.length_append, HPA.out]; have := HAM.out; omega), List.length_append, HPA.out, HAM.out, List.getElem?_append_left hk2]; exact hy
      obtain ⟨x', hx', c1, f1, hbw⟩ := ownsI_at HO.out h hhn
      obtain ⟨y', hy', c2, f2, _⟩ := ownsI_at HO.out q hqn
      rw [g1] at hx'; rw [g2] at hy'
      obtain rfl : x = x' := by simpa using hx'
      obtain rfl : y = y' := by simpa using hy'
      have HXM := Lib.hid (show x ∈ A ++ D from List.mem_append_left _ (List.mem_of_getElem? hx))
      have HYM := Lib.hid (show y ∈ A ++ D from List.mem_append_right _ (List.mem_of_getElem? hy))
      have HX := Lib.hid hx; have HY := Lib.hid hy; have HQ := Lib.hid hq
      clear hx' hy' hx hy g1 g2 hh hk1 hk2 f1 f2 hq KS'
      by_cases hl : cf y x < 0
      · have HL := Lib.hid hl
        go_wp2_with (refine wp_region_later_lit (by kernel_rfl) (by kernel_rfl) ?_; (repeat (go_big_quiet_step ((go_at_fn g; exact later_of (HC.out.gives _ y x (grownB HG.out (After.below _)) HYM.out HXM.out))))); refine wpQuiet_nil ?_; intro w3 hb3)
        go_roundw
        case rel =>
          refine ⟨s, h, rfl, by go_num, by omega, by omega, by omega, H1.out, .inr ⟨x, y, HX.out, ?_, decide_eq_true HL.out⟩, owns_ext HO.out hb3, grownB HG.out hb3⟩
          rw [← HQ.out]; exact HY.out
        case measure => simp [intOf]; omega
      · have HL := Lib.hid hl
        have hl' : decide (cf y x < 0) = false := by simpa using hl
        go_wp2_with (refine wp_region_later_lit (by kernel_rfl) (by kernel_rfl) ?_; (repeat (go_big_quiet_step ((go_at_fn g; exact later_of (HC.out.gives _ y x (grownB HG.out (After.below _)) HYM.out HXM.out))))); refine wpQuiet_nil ?_; intro w3 hb3)
        go_roundw
        case rel =>
          refine ⟨h + 1, r, by go_num, rfl, by omega, by omega, by omega, .inr ⟨x, y, HX.out, ?_, decide_eq_false HL.out⟩, H2.out, owns_ext HO.out hb3, grownB HG.out hb3⟩
          rw [show nn - (h + 1) - m = q - m by have := HQ.out; omega]; exact HY.out
        case measure => simp [intOf]; omega
    · as_aux_lemma =>
      obtain rfl : s = r := by omega
      have KS' := KS.out
      obtain ⟨en, hen2⟩ : ∃ en, en = nn - s := ⟨_, rfl⟩
      have e9 : (nn : Int) - (s : Int) = (en : Int) := by omega
      obtain ⟨i, hi⟩ : ∃ i, a + i = s := ⟨s - a, by omega⟩
      obtain ⟨j, hj⟩ : ∃ j, m + j = en := ⟨en - m, by omega⟩
      have hiA : i ≤ A.length := by have := HAM.out; omega
      have hjD : j ≤ D.length := by have := HDE.out; omega
      have hij : i + j = mid - a := by omega
      have HCUT : Hid (CutOk (ltOf cf) A D i j) := Lib.hid (by
        refine cutOk hw HSA.out HSD.out ?_ ?_ (by omega)
        · rcases H1.out with q | ⟨x, y, q1, q2, q3⟩
          · rcases KS'.1 with q4 | q4
            · left; omega
            · right; left; have := HDE.out; omega
          · exact .inr (.inr ⟨x, y, by rw [← q1]; congr 1; omega, by rw [← q2]; congr 1; omega, q3⟩)
        · rcases H2.out with q | ⟨x, y, q1, q2, q3⟩
          · rcases KS'.2.2.2.2.2.2 with q4 | q4
            · left; have := HAM.out; omega
            · right; left; omega
          · exact .inr (.inr ⟨x, y, by rw [← q1]; congr 1; omega, by rw [← q2]; congr 1; omega, q3⟩))
      have eL : P ++ (A ++ (D ++ S)) = (P ++ A.take i) ++ (A.drop i ++ (D.take j ++ (D.drop j ++ S))) := by
        rw [List.append_assoc, ← List.append_assoc (A.take i), List.take_append_drop, ← List.append_assoc (D.take j), List.take_append_drop]
      have HOL : Hid (wo.ownsRow B 3 1 (.slice (some ⟨b, 0, none⟩) n c) n (((P ++ A.take i) ++ (A.drop i ++ (D.take j ++ (D.drop j ++ S)))).flatMap enc1)) := Lib.hid (by rw [← eL]; exact HO.out)
      have hl1 : (P ++ A.take i).length = s := by rw [List.length_append, HPA.out, List.length_take]; omega
      have hl2 : s + (A.drop i).length = m := by rw [List.length_drop]; have := HAM.out; omega
      have hl3 : m + (D.take j).length = en := by rw [List.length_take]; omega
      have HL1 := Lib.hid hl1; have HL2 := Lib.hid hl2; have HL3 := Lib.hid hl3; have HI := Lib.hid hi; have HJ := Lib.hid hj
      have HEN := Lib.hid hen2
      have HG0 := Lib.hid HG.out
      clear H1 H2 KS KS' eL hl1 hl2 hl3 hen2 HO T hs hr
      obtain ⟨B1, hB1⟩ : ∃ B1, (decide (s < m) && decide (m < en)) = B1 := ⟨_, rfl⟩
      have HB1 := Lib.hid hB1
      clear hB1
      go_upto_region 39 with (fail)
      go_cut [185] from 25 (fun v wx => v = .bool B1 ∧ wx = wo)
      case first => as_aux_lemma =>
        by_cases k1 : s < m
        · have k1' : (s : Int) < (m : Int) := by omega
          by_cases k2 : m < en
          · have k2' : (m : Int) < (en : Int) := by omega
            obtain rfl : B1 = true := by rw [← HB1.out]; simp [k1, k2]
            go_wp2
            go_meet
            case rel => exact ⟨rfl, rfl⟩
          · have k2' : ¬ (m : Int) < (en : Int) := by omega
            have k3 : decide ((m : Int) < (en : Int)) = false := by simp; omega
            obtain rfl : B1 = false := by rw [← HB1.out]; simp; omega
            go_wp2
            go_meet
            case rel => exact ⟨rfl, rfl⟩
        · have k1' : ¬ (s : Int) < (m : Int) := by omega
          have k3 : decide ((s : Int) < (m : Int)) = false := by simp; omega
          obtain rfl : B1 = false := by rw [← HB1.out]; simp; omega
          go_wp2
          go_meet
          case rel => exact ⟨rfl, rfl⟩
      case rest => as_aux_lemma =>
        obtain ⟨rfl, rfl⟩ := hcut
        go_upto_if 185 with (fail)
        go_cut [] from 25 (fun wx => wx.ownsRow B 3 1 (.slice (some ⟨b, 0, none⟩) n c) n (((P ++ A.take i) ++ (D.take j ++ (A.drop i ++ (D.drop j ++ S)))).flatMap enc1) ∧ w.grownBy wx (some b))
        case first => as_aux_lemma =>
          cases B1
          · go_wp2
            go_meet
            case rel =>
              refine ⟨?_, HG.out⟩
              have hor : A.drop i = [] ∨ D.take j = [] := by
                have hb := HB1.out
                by_cases k1 : s < m
                · right
                  rw [decide_eq_true k1, Bool.true_and, decide_eq_false_iff_not] at hb
                  rw [show j = 0 by have := HJ.out; omega, List.take_zero]
                · left; exact List.drop_of_length_le (by have := HAM.out; have := HI.out; omega)
              have := HOL.out
              rcases hor with q | q <;> rw [q] at this ⊢ <;> exact this
          · have kk : s < m ∧ m < en := by have := HB1.out; simpa using this
            go_wp2_with (go_at_call 81; (with_reducible refine (rotate_any _ cb B b n c s m en (P ++ A.take i) (A.drop i) (D.take j) (D.drop j ++ S) _ hn HOL.out HL1.out HL2.out HL3.out kk.1 kk.2).mono ?_); rintro e w1 ⟨rfl, ho, hg⟩; have HO1 := Lib.hid ho; have HG1 := Lib.hid hg; clear ho hg)
            go_meet
            case rel => exact ⟨HO1.out, HG.out.trans HG1.out⟩
        case rest => as_aux_lemma =>
          obtain ⟨hO1, hG1⟩ := hcut
          have HO1 := Lib.hid hO1; have HG1 := Lib.hid hG1
          clear hO1 hG1 HOL HG HG0 HB1
          obtain ⟨wd, rfl⟩ : ∃ wd : World, wd = wc := ⟨_, rfl⟩
          obtain ⟨B2, hB2⟩ : ∃ B2, (decide (a < s) && decide (s < mid)) = B2 := ⟨_, rfl⟩
          have HB2 := Lib.hid hB2
          clear hB2
          go_upto_region 41 with (fail)
          go_cut [199] from 25 (fun v wx => v = .bool B2 ∧ wx = wd)
          case first => as_aux_lemma =>
            by_cases k1 : a < s
            · have k1' : (a : Int) < (s : Int) := by omega
              by_cases k2 : s < mid
              · have k2' : (s : Int) < (mid : Int) := by omega
                obtain rfl : B2 = true := by rw [← HB2.out]; simp [k1, k2]
                go_wp2
                go_meet
                case rel => exact ⟨rfl, rfl⟩
              · have k2' : ¬ (s : Int) < (mid : Int) := by omega
                have k3 : decide ((s : Int) < (mid : Int)) = false := by simp; omega
                obtain rfl : B2 = false := by rw [← HB2.out]; simp; omega
                go_wp2
                go_meet
                case rel => exact ⟨rfl, rfl⟩
            · have k1' : ¬ (a : Int) < (s : Int) := by omega
              have k3 : decide ((a : Int) < (s : Int)) = false := by simp; omega
              obtain rfl : B2 = false := by rw [← HB2.out]; simp; omega
              go_wp2
              go_meet
              case rel => exact ⟨rfl, rfl⟩
          case rest => as_aux_lemma =>
            obtain ⟨rfl, rfl⟩ := hcut
            go_upto_if 199 with (fail)
            go_cut [] from 25 (fun wx => ∃ R1, Mrg (ltOf cf) (A.take i) (D.take j) R1 ∧ R1.length = i + j ∧ wx.ownsRow B 3 1 (.slice (some ⟨b, 0, none⟩) n c) n ((P ++ (R1 ++ (A.drop i ++ (D.drop j ++ S)))).flatMap enc1) ∧ w.grownBy wx (some b))
            case first => as_aux_lemma =>
              cases B2
              · go_wp2
                go_meet
                case rel =>
                  have hb := HB2.out
                  by_cases k1 : a < s
                  · rw [decide_eq_true k1, Bool.true_and, decide_eq_false_iff_not] at hb
                    have j0 : j = 0 := by have := HI.out; omega
                    refine ⟨A.take i, by rw [j0, List.take_zero]; exact Mrg.left (srt_tk HSA.out i), by rw [List.length_take]; omega, ?_, HG1.out⟩
                    have := HO1.out
                    rw [j0, List.take_zero, List.append_assoc] at this
                    rw [j0]; exact this
                  · have i0 : i = 0 := by have := HI.out; omega
                    refine ⟨D.take j, by rw [i0, List.take_zero]; exact Mrg.right (srt_tk HSD.out j), by rw [List.length_take]; omega, ?_, HG1.out⟩
                    have := HO1.out
                    rw [i0, List.take_zero, List.append_nil] at this
                    rw [i0]; exact this
              · have kk : a < s ∧ s < mid := by have := HB2.out; simpa using this
                have HCX := Lib.hid (IH.out a s mid P (A.take i) (D.take j) (A.drop i ++ (D.drop j ++ S)) _ (by rw [List.length_take, List.length_take]; have := HF.out; have := HAM.out; have := HDE.out; omega) (by have := HO1.out; rw [List.append_assoc] at this; exact this) HPA.out (by rw [List.length_take]; have := HI.out; omega) (by rw [List.length_take]; have := HI.out; omega) kk.1 kk.2 ((HC.out.later HG1.out).sub (fun z hz => by rcases List.mem_append.1 hz with hz | hz; exact List.mem_append_left _ (List.mem_of_mem_take hz); exact List.mem_append_right _ (List.mem_of_mem_take hz))) (srt_tk HSA.out i) (srt_tk HSD.out j))
                go_wp2_with (go_at_call 80; (with_reducible refine HCX.out.mono ?_); rintro e w1 ⟨R1, hm1, rfl, ho, hg⟩; have HO2 := Lib.hid ho; have HG2 := Lib.hid hg; have HM1 := Lib.hid hm1; clear ho hg hm1)
                go_meet
                case rel =>
                  refine ⟨R1, HM1.out, ?_, HO2.out, HG1.out.trans HG2.out⟩
                  have e1 := (ownsI_rd HO1.out).length
                  have e2 := (ownsI_rd HO2.out).length
                  simp only [List.length_append, List.length_take, List.length_drop] at e1 e2
                  omega
            case rest => as_aux_lemma =>
              obtain ⟨R1, hM1, hR1, hO2, hG2⟩ := hcut
              have HO2 := Lib.hid hO2; have HG2 := Lib.hid hG2; have HM1 := Lib.hid hM1; have HR1 := Lib.hid hR1
              clear hO2 hG2 hM1 hR1 HO1 HG1 HB2
              obtain ⟨wd, rfl⟩ : ∃ wd : World, wd = wc := ⟨_, rfl⟩
              obtain ⟨B3, hB3⟩ : ∃ B3, (decide (mid < en) && decide (en < e)) = B3 := ⟨_, rfl⟩
              have HB3 := Lib.hid hB3
              clear hB3
              go_upto_region 43 with (fail)
              go_cut [213] from 25 (fun v wx => v = .bool B3 ∧ wx = wd)
              case first => as_aux_lemma =>
                by_cases k1 : mid < en
                · have k1' : (mid : Int) < (en : Int) := by omega
                  by_cases k2 : en < e
                  · have k2' : (en : Int) < (e : Int) := by omega
                    obtain rfl : B3 = true := by rw [← HB3.out]; simp [k1, k2]
                    go_wp2
                    go_meet
                    case rel => exact ⟨rfl, rfl⟩
                  · have k2' : ¬ (en : Int) < (e : Int) := by omega
                    have k3 : decide ((en : Int) < (e : Int)) = false := by simp; omega
                    obtain rfl : B3 = false := by rw [← HB3.out]; simp; omega
                    go_wp2
                    go_meet
                    case rel => exact ⟨rfl, rfl⟩
                · have k1' : ¬ (mid : Int) < (en : Int) := by omega
                  have k3 : decide ((mid : Int) < (en : Int)) = false := by simp; omega
                  obtain rfl : B3 = false := by rw [← HB3.out]; simp; omega
                  go_wp2
                  go_meet
                  case rel => exact ⟨rfl, rfl⟩
              case rest => as_aux_lemma =>
                obtain ⟨rfl, rfl⟩ := hcut
                cases B3
                · go_wp2
                  go_end0
                  have hb := HB3.out
                  by_cases k1 : mid < en
                  · rw [decide_eq_true k1, Bool.true_and, decide_eq_false_iff_not] at hb
                    have j0 : D.drop j = [] := List.drop_of_length_le (by have := HDE.out; have := HJ.out; omega)
                    refine ⟨R1 ++ A.drop i, MrgP.join hw HSA.out HSD.out HCUT.out HM1.out (by rw [j0]; exact Mrg.left (srt_dr HSA.out i)), rfl, ?_, HG2.out⟩
                    have := HO2.out
                    rw [j0] at this
                    rw [List.append_assoc]; exact this
                  · have i0 : A.drop i = [] := List.drop_of_length_le (by have := HAM.out; have := HI.out; have := HJ.out; have := HEN.out; omega)
                    refine ⟨R1 ++ D.drop j, MrgP.join hw HSA.out HSD.out HCUT.out HM1.out (by rw [i0]; exact Mrg.right (srt_dr HSD.out j)), rfl, ?_, HG2.out⟩
                    have := HO2.out
                    rw [i0] at this
                    rw [List.append_assoc]; exact this
                · have kk : mid < en ∧ en < e := by have := HB3.out; simpa using this
                  have HCX := Lib.hid (IH.out mid en e (P ++ R1) (A.drop i) (D.drop j) S _ (by rw [List.length_drop, List.length_drop]; have := HF.out; have := HAM.out; have := HDE.out; omega) (by have := HO2.out; rw [List.append_assoc]; exact this) (by rw [List.length_append, HPA.out, HR1.out]; omega) (by rw [List.length_drop]; have := HAM.out; have := HI.out; have := HJ.out; omega) (by rw [List.length_drop]; have := HDE.out; have := HJ.out; omega) kk.1 kk.2 ((HC.out.later HG2.out).sub (fun z hz => by rcases List.mem_append.1 hz with hz | hz; exact List.mem_append_left _ (List.mem_of_mem_drop hz); exact List.mem_append_right _ (List.mem_of_mem_drop hz))) (srt_dr HSA.out i) (srt_dr HSD.out j))
                  go_wp2_with (go_at_call 80; (with_reducible refine HCX.out.mono ?_); rintro e w1 ⟨R2, hm2, rfl, ho, hg⟩; have HO3 := Lib.hid ho; have HG3 := Lib.hid hg; have HM2 := Lib.hid hm2; clear ho hg hm2)
                  go_end0
                  refine ⟨R1 ++ R2, MrgP.join hw HSA.out HSD.out HCUT.out HM1.out HM2.out, rfl, ?_, HG2.out.trans HG3.out⟩
                  have := HO3.out
                  rw [List.append_assoc] at this
                  rw [List.append_assoc]; exact this
set_option maxRecDepth 100000 in
set_option maxHeartbeats 8000000 in
theorem symD {cf : Int → Int → Int} (hw : Swo (ltOf cf)) (g : Nat) (cb : Array Value) (B b n c : Nat) (hn : n ≤ 1000) (f : Nat) (ih : SymIH cf g cb B b n c f) (a m e : Nat) (P A D S : List Int) (w : World) (hf : A.length + D.length ≤ f + 1) (hO : w.ownsRow B 3 1 (.slice (some ⟨b, 0, none⟩) n c) n ((P ++ (A ++ (D ++ S))).flatMap enc1))
    (ha : P.length = a) (hm : a + A.length = m) (he : m + D.length = e) (ham : a < m) (hme : m < e) (hC : CmpOn g cb cf b (A ++ D) w) (hA : Srt (ltOf cf) A) (hD : Srt (ltOf cf) D) (hA1 : ¬ A.length = 1) (hD1 : ¬ D.length = 1) (hkm : m ≤ (a + e) / 2) :
    Calls Try.prog 80 #[.slice (some ⟨b, 0, none⟩) n c, .int .i64 a, .int .i64 m, .int .i64 e, .func (.func g) #[] cb] w (MrgP B w b n c cf P A D S) := by
  have hlen : (P ++ (A ++ (D ++ S))).length = n := (ownsI_rd hO).length
  simp only [List.length_append] at hlen
  have hen : e ≤ n := by omega
  have eg := hC.eg
  obtain ⟨mid, hmid⟩ : ∃ mid, (a + e) / 2 = mid := ⟨_, rfl⟩
  obtain ⟨nn, hnn⟩ : ∃ nn, mid + m = nn := ⟨_, rfl⟩
  have e5 : ((a : Int) + (e : Int)) / 2 = (mid : Int) := by omega
  have t1 : ¬ (m : Int) - (a : Int) = 1 := by omega
  have t2 : ¬ (e : Int) - (m : Int) = 1 := by omega
  have e6 : (mid : Int) + (m : Int) = (nn : Int) := by omega
  have hma : a < mid := by omega
  have hme2 : mid < e := by omega
  have km : m ≤ mid := by omega
  obtain ⟨s0, r0, ks, kr⟩ : ∃ s0 r0 : Nat, a = s0 ∧ m = r0 := ⟨a, m, rfl, rfl⟩
  have HC := Lib.hid hC; have HO0 := Lib.hid hO; have HPA := Lib.hid ha; have HAM := Lib.hid hm; have HDE := Lib.hid he; have HSA := Lib.hid hA; have HSD := Lib.hid hD; have HF := Lib.hid hf; have IH := Lib.hid ih
  have HMID := Lib.hid hmid
  clear hC hO ha hm he hA hD hf ih hlen hmid hkm
  have T : ¬ ((m : Int) > (mid : Int)) := by omega
  have KS : Hid ((s0 = a ∨ s0 + e = nn) ∧ a ≤ s0 ∧ s0 ≤ r0 ∧ r0 ≤ m ∧ r0 ≤ mid ∧ nn ≤ s0 + e ∧ (r0 = m ∨ r0 = mid)) := Lib.hid (by omega)
  subst ks; subst kr
  go_enter Try.func80, Try.ntmps80
  go_wp2
  go_loopw [20, 21] (fun u v wr => ∃ s r : Nat, u = .int .i64 s ∧ v = .int .i64 r ∧ a ≤ s ∧ s ≤ r ∧ r ≤ m ∧ (s = a ∨ ∃ x y, A[s - 1 - a]? = some x ∧ D[nn - s - m]? = some y ∧ ltOf cf y x = false) ∧ (r = m ∨ ∃ x y, A[r - a]? = some x ∧ D[nn - 1 - r - m]? = some y ∧ ltOf cf y x = true) ∧ wr.ownsRow B 3 1 (.slice (some ⟨b, 0, none⟩) n c) n ((P ++ (A ++ (D ++ S))).flatMap enc1) ∧ w.grownBy wr (some b)) (fun u v _ => (intOf v).toNat - (intOf u).toNat)
  case atStart => have KS' := KS.out; exact ⟨a, m, rfl, rfl, Nat.le_refl _, by omega, Nat.le_refl _, .inl rfl, .inl rfl, HO0.out, World.grownBy.refl _ _⟩
  case round =>
    obtain ⟨s, r, rfl, rfl, hs, hsr, hr, h1, h2, hO, hG⟩ := hrel
    have H1 := Lib.hid h1; have H2 := Lib.hid h2; have HO := Lib.hid hO; have HG := Lib.hid hG
    clear h1 h2 hO hG HO0
    obtain ⟨wo, rfl⟩ : ∃ wo : World, wo = wr := ⟨_, rfl⟩
    by_cases hlt : s < r
    · as_aux_lemma =>
      have KS' := KS.out
      obtain ⟨h, hh⟩ : ∃ h, (s + r) / 2 = h := ⟨_, rfl⟩
      obtain ⟨q, hq⟩ : ∃ q : Nat, q = nn - 1 - h := ⟨_, rfl⟩
      have hhr : h < r := by omega
      have hsh : s ≤ h := by omega
      have e7 : ((s : Int) + (r : Int)) / 2 = (h : Int) := by omega
      have hqm : m ≤ q := by omega
      have hqe : q < e := by omega
      have e8 : (nn : Int) - 1 - (h : Int) = (q : Int) := by omega
      have hhn : h < n := by omega
      have hqn : q < n := by omega
      have hk1 : h - a < A.length := by have := HAM.out; omega
      have hk2 : q - m < D.length := by have := HDE.out; omega
      obtain ⟨x, hx⟩ : ∃ x, A[h - a]? = some x := ⟨_, List.getElem?_eq_getElem hk1⟩
      obtain ⟨y, hy⟩ : ∃ y, D[q - m]? = some y := ⟨_, List.getElem?_eq_getElem hk2⟩
      have g1 : (P ++ (A ++ (D ++ S)))[h]? = some x := by
        rw [List.getElem?_append_right (by rw [HPA.out]; omega), HPA.out, List.getElem?_append_left hk1]; exact hx
      have g2 : (P ++ (A ++ (D ++ S)))[q]? = some y := by
        rw [← List.append_assoc, List.getElem?_append_right (by rw [List.length_append, HPA.out]; have := HAM.out; omega), List.length_append, HPA.out, HAM.out, List.getElem?_append_left hk2]; exact hy
      obtain ⟨x', hx', c1, f1, hbw⟩ := ownsI_at HO.out h hhn
      obtain ⟨y', hy', c2, f2, _⟩ := ownsI_at HO.out q hqn
      rw [g1] at hx'; rw [g2] at hy'
      obtain rfl : x = x' := by simpa using hx'
      obtain rfl : y = y' := by simpa using hy'
      have HXM := Lib.hid (show x ∈ A ++ D from List.mem_append_left _ (List.mem_of_getElem? hx))
      have HYM := Lib.hid (show y ∈ A ++ D from List.mem_append_right _ (List.mem_of_getElem? hy))
      have HX := Lib.hid hx; have HY := Lib.hid hy; have HQ := Lib.hid hq
      clear hx' hy' hx hy g1 g2 hh hk1 hk2 f1 f2 hq KS'
      by_cases hl : cf y x < 0
      · have HL := Lib.hid hl
        go_wp2_with (refine wp_region_later_lit (by kernel_rfl) (by kernel_rfl) ?_; (repeat (go_big_quiet_step ((go_at_fn g; exact later_of (HC.out.gives _ y x (grownB HG.out (After.below _)) HYM.out HXM.out))))); refine wpQuiet_nil ?_; intro w3 hb3)
        go_roundw
        case rel =>
          refine ⟨s, h, rfl, by go_num, by omega, by omega, by omega, H1.out, .inr ⟨x, y, HX.out, ?_, decide_eq_true HL.out⟩, owns_ext HO.out hb3, grownB HG.out hb3⟩
          rw [← HQ.out]; exact HY.out
        case measure => simp [intOf]; omega
      · have HL := Lib.hid hl
        have hl' : decide (cf y x < 0) = false := by simpa using hl
        go_wp2_with (refine wp_region_later_lit (by kernel_rfl) (by kernel_rfl) ?_; (repeat (go_big_quiet_step ((go_at_fn g; exact later_of (HC.out.gives _ y x (grownB HG.out (After.below _)) HYM.out HXM.out))))); refine wpQuiet_nil ?_; intro w3 hb3)
        go_roundw
        case rel =>
          refine ⟨h + 1, r, by go_num, rfl, by omega, by omega, by omega, .inr ⟨x, y, HX.out, ?_, decide_eq_false HL.out⟩, H2.out, owns_ext HO.out hb3, grownB HG.out hb3⟩
          rw [show nn - (h + 1) - m = q - m by have := HQ.out; omega]; exact HY.out
        case measure => simp [intOf]; omega
    · as_aux_lemma =>
      obtain rfl : s = r := by omega
      have KS' := KS.out
      obtain ⟨en, hen2⟩ : ∃ en, en = nn - s := ⟨_, rfl⟩
      have e9 : (nn : Int) - (s : Int) = (en : Int) := by omega
      obtain ⟨i, hi⟩ : ∃ i, a + i = s := ⟨s - a, by omega⟩
      obtain ⟨j, hj⟩ : ∃ j, m + j = en := ⟨en - m, by omega⟩
      have hiA : i ≤ A.length := by have := HAM.out; omega
      have hjD : j ≤ D.length := by have := HDE.out; omega
      have hij : i + j = mid - a := by omega
      have HCUT : Hid (CutOk (ltOf cf) A D i j) := Lib.hid (by
        refine cutOk hw HSA.out HSD.out ?_ ?_ (by omega)
        · rcases H1.out with q | ⟨x, y, q1, q2, q3⟩
          · rcases KS'.1 with q4 | q4
            · left; omega
            · right; left; have := HDE.out; omega
          · exact .inr (.inr ⟨x, y, by rw [← q1]; congr 1; omega, by rw [← q2]; congr 1; omega, q3⟩)
        · rcases H2.out with q | ⟨x, y, q1, q2, q3⟩
          · rcases KS'.2.2.2.2.2.2 with q4 | q4
            · left; have := HAM.out; omega
            · right; left; omega
          · exact .inr (.inr ⟨x, y, by rw [← q1]; congr 1; omega, by rw [← q2]; congr 1; omega, q3⟩))
      have eL : P ++ (A ++ (D ++ S)) = (P ++ A.take i) ++ (A.drop i ++ (D.take j ++ (D.drop j ++ S))) := by
        rw [List.append_assoc, ← List.append_assoc (A.take i), List.take_append_drop, ← List.append_assoc (D.take j), List.take_append_drop]
      have HOL : Hid (wo.ownsRow B 3 1 (.slice (some ⟨b, 0, none⟩) n c) n (((P ++ A.take i) ++ (A.drop i ++ (D.take j ++ (D.drop j ++ S)))).flatMap enc1)) := Lib.hid (by rw [← eL]; exact HO.out)
      have hl1 : (P ++ A.take i).length = s := by rw [List.length_append, HPA.out, List.length_take]; omega
      have hl2 : s + (A.drop i).length = m := by rw [List.length_drop]; have := HAM.out; omega
      have hl3 : m + (D.take j).length = en := by rw [List.length_take]; omega
      have HL1 := Lib.hid hl1; have HL2 := Lib.hid hl2; have HL3 := Lib.hid hl3; have HI := Lib.hid hi; have HJ := Lib.hid hj
      have HEN := Lib.hid hen2
      have HG0 := Lib.hid HG.out
      clear H1 H2 KS KS' eL hl1 hl2 hl3 hen2 HO T hs hr
      obtain ⟨B1, hB1⟩ : ∃ B1, (decide (s < m) && decide (m < en)) = B1 := ⟨_, rfl⟩
      have HB1 := Lib.hid hB1
      clear hB1
      go_upto_region 39 with (fail)
      go_cut [185] from 25 (fun v wx => v = .bool B1 ∧ wx = wo)
      case first => as_aux_lemma =>
        by_cases k1 : s < m
        · have k1' : (s : Int) < (m : Int) := by omega
          by_cases k2 : m < en
          · have k2' : (m : Int) < (en : Int) := by omega
            obtain rfl : B1 = true := by rw [← HB1.out]; simp [k1, k2]
            go_wp2
            go_meet
            case rel => exact ⟨rfl, rfl⟩
          · have k2' : ¬ (m : Int) < (en : Int) := by omega
            have k3 : decide ((m : Int) < (en : Int)) = false := by simp; omega
            obtain rfl : B1 = false := by rw [← HB1.out]; simp; omega
            go_wp2
            go_meet
            case rel => exact ⟨rfl, rfl⟩
        · have k1' : ¬ (s : Int) < (m : Int) := by omega
          have k3 : decide ((s : Int) < (m : Int)) = false := by simp; omega
          obtain rfl : B1 = false := by rw [← HB1.out]; simp; omega
          go_wp2
          go_meet
          case rel => exact ⟨rfl, rfl⟩
      case rest => as_aux_lemma =>
        obtain ⟨rfl, rfl⟩ := hcut
        go_upto_if 185 with (fail)
        go_cut [] from 25 (fun wx => wx.ownsRow B 3 1 (.slice (some ⟨b, 0, none⟩) n c) n (((P ++ A.take i) ++ (D.take j ++ (A.drop i ++ (D.drop j ++ S)))).flatMap enc1) ∧ w.grownBy wx (some b))
        case first => as_aux_lemma =>
          cases B1
          · go_wp2
            go_meet
            case rel =>
              refine ⟨?_, HG.out⟩
              have hor : A.drop i = [] ∨ D.take j = [] := by
                have hb := HB1.out
                by_cases k1 : s < m
                · right
                  rw [decide_eq_true k1, Bool.true_and, decide_eq_false_iff_not] at hb
                  rw [show j = 0 by have := HJ.out; omega, List.take_zero]
                · left; exact List.drop_of_length_le (by have := HAM.out; have := HI.out; omega)
              have := HOL.out
              rcases hor with q | q <;> rw [q] at this ⊢ <;> exact this
          · have kk : s < m ∧ m < en := by have := HB1.out; simpa using this
            go_wp2_with (go_at_call 81; (with_reducible refine (rotate_any _ cb B b n c s m en (P ++ A.take i) (A.drop i) (D.take j) (D.drop j ++ S) _ hn HOL.out HL1.out HL2.out HL3.out kk.1 kk.2).mono ?_); rintro e w1 ⟨rfl, ho, hg⟩; have HO1 := Lib.hid ho; have HG1 := Lib.hid hg; clear ho hg)
            go_meet
            case rel => exact ⟨HO1.out, HG.out.trans HG1.out⟩
        case rest => as_aux_lemma =>
          obtain ⟨hO1, hG1⟩ := hcut
          have HO1 := Lib.hid hO1; have HG1 := Lib.hid hG1
          clear hO1 hG1 HOL HG HG0 HB1
          obtain ⟨wd, rfl⟩ : ∃ wd : World, wd = wc := ⟨_, rfl⟩
          obtain ⟨B2, hB2⟩ : ∃ B2, (decide (a < s) && decide (s < mid)) = B2 := ⟨_, rfl⟩
          have HB2 := Lib.hid hB2
          clear hB2
          go_upto_region 41 with (fail)
          go_cut [199] from 25 (fun v wx => v = .bool B2 ∧ wx = wd)
          case first => as_aux_lemma =>
            by_cases k1 : a < s
            · have k1' : (a : Int) < (s : Int) := by omega
              by_cases k2 : s < mid
              · have k2' : (s : Int) < (mid : Int) := by omega
                obtain rfl : B2 = true := by rw [← HB2.out]; simp [k1, k2]
                go_wp2
                go_meet
                case rel => exact ⟨rfl, rfl⟩
              · have k2' : ¬ (s : Int) < (mid : Int) := by omega
                have k3 : decide ((s : Int) < (mid : Int)) = false := by simp; omega
                obtain rfl : B2 = false := by rw [← HB2.out]; simp; omega
                go_wp2
                go_meet
                case rel => exact ⟨rfl, rfl⟩
            · have k1' : ¬ (a : Int) < (s : Int) := by omega
              have k3 : decide ((a : Int) < (s : Int)) = false := by simp; omega
              obtain rfl : B2 = false := by rw [← HB2.out]; simp; omega
              go_wp2
              go_meet
              case rel => exact ⟨rfl, rfl⟩
          case rest => as_aux_lemma =>
            obtain ⟨rfl, rfl⟩ := hcut
            go_upto_if 199 with (fail)
            go_cut [] from 25 (fun wx => ∃ R1, Mrg (ltOf cf) (A.take i) (D.take j) R1 ∧ R1.length = i + j ∧ wx.ownsRow B 3 1 (.slice (some ⟨b, 0, none⟩) n c) n ((P ++ (R1 ++ (A.drop i ++ (D.drop j ++ S)))).flatMap enc1) ∧ w.grownBy wx (some b))
            case first => as_aux_lemma =>
              cases B2
              · go_wp2
                go_meet
                case rel =>
                  have hb := HB2.out
                  by_cases k1 : a < s
                  · rw [decide_eq_true k1, Bool.true_and, decide_eq_false_iff_not] at hb
                    have j0 : j = 0 := by have := HI.out; omega
                    refine ⟨A.take i, by rw [j0, List.take_zero]; exact Mrg.left (srt_tk HSA.out i), by rw [List.length_take]; omega, ?_, HG1.out⟩
                    have := HO1.out
                    rw [j0, List.take_zero, List.append_assoc] at this
                    rw [j0]; exact this
                  · have i0 : i = 0 := by have := HI.out; omega
                    refine ⟨D.take j, by rw [i0, List.take_zero]; exact Mrg.right (srt_tk HSD.out j), by rw [List.length_take]; omega, ?_, HG1.out⟩
                    have := HO1.out
                    rw [i0, List.take_zero, List.append_nil] at this
                    rw [i0]; exact this
              · have kk : a < s ∧ s < mid := by have := HB2.out; simpa using this
                have HCX := Lib.hid (IH.out a s mid P (A.take i) (D.take j) (A.drop i ++ (D.drop j ++ S)) _ (by rw [List.length_take, List.length_take]; have := HF.out; have := HAM.out; have := HDE.out; omega) (by have := HO1.out; rw [List.append_assoc] at this; exact this) HPA.out (by rw [List.length_take]; have := HI.out; omega) (by rw [List.length_take]; have := HI.out; omega) kk.1 kk.2 ((HC.out.later HG1.out).sub (fun z hz => by rcases List.mem_append.1 hz with hz | hz; exact List.mem_append_left _ (List.mem_of_mem_take hz); exact List.mem_append_right _ (List.mem_of_mem_take hz))) (srt_tk HSA.out i) (srt_tk HSD.out j))
                go_wp2_with (go_at_call 80; (with_reducible refine HCX.out.mono ?_); rintro e w1 ⟨R1, hm1, rfl, ho, hg⟩; have HO2 := Lib.hid ho; have HG2 := Lib.hid hg; have HM1 := Lib.hid hm1; clear ho hg hm1)
                go_meet
                case rel =>
                  refine ⟨R1, HM1.out, ?_, HO2.out, HG1.out.trans HG2.out⟩
                  have e1 := (ownsI_rd HO1.out).length
                  have e2 := (ownsI_rd HO2.out).length
                  simp only [List.length_append, List.length_take, List.length_drop] at e1 e2
                  omega
            case rest => as_aux_lemma =>
              obtain ⟨R1, hM1, hR1, hO2, hG2⟩ := hcut
              have HO2 := Lib.hid hO2; have HG2 := Lib.hid hG2; have HM1 := Lib.hid hM1; have HR1 := Lib.hid hR1
              clear hO2 hG2 hM1 hR1 HO1 HG1 HB2
              obtain ⟨wd, rfl⟩ : ∃ wd : World, wd = wc := ⟨_, rfl⟩
              obtain ⟨B3, hB3⟩ : ∃ B3, (decide (mid < en) && decide (en < e)) = B3 := ⟨_, rfl⟩
              have HB3 := Lib.hid hB3
              clear hB3
              go_upto_region 43 with (fail)
              go_cut [213] from 25 (fun v wx => v = .bool B3 ∧ wx = wd)
              case first => as_aux_lemma =>
                by_cases k1 : mid < en
                · have k1' : (mid : Int) < (en : Int) := by omega
                  by_cases k2 : en < e
                  · have k2' : (en : Int) < (e : Int) := by omega
                    obtain rfl : B3 = true := by rw [← HB3.out]; simp [k1, k2]
                    go_wp2
                    go_meet
                    case rel => exact ⟨rfl, rfl⟩
                  · have k2' : ¬ (en : Int) < (e : Int) := by omega
                    have k3 : decide ((en : Int) < (e : Int)) = false := by simp; omega
                    obtain rfl : B3 = false := by rw [← HB3.out]; simp; omega
                    go_wp2
                    go_meet
                    case rel => exact ⟨rfl, rfl⟩
                · have k1' : ¬ (mid : Int) < (en : Int) := by omega
                  have k3 : decide ((mid : Int) < (en : Int)) = false := by simp; omega
                  obtain rfl : B3 = false := by rw [← HB3.out]; simp; omega
                  go_wp2
                  go_meet
                  case rel => exact ⟨rfl, rfl⟩
              case rest => as_aux_lemma =>
                obtain ⟨rfl, rfl⟩ := hcut
                cases B3
                · go_wp2
                  go_end0
                  have hb := HB3.out
                  by_cases k1 : mid < en
                  · rw [decide_eq_true k1, Bool.true_and, decide_eq_false_iff_not] at hb
                    have j0 : D.drop j = [] := List.drop_of_length_le (by have := HDE.out; have := HJ.out; omega)
                    refine ⟨R1 ++ A.drop i, MrgP.join hw HSA.out HSD.out HCUT.out HM1.out (by rw [j0]; exact Mrg.left (srt_dr HSA.out i)), rfl, ?_, HG2.out⟩
                    have := HO2.out
                    rw [j0] at this
                    rw [List.append_assoc]; exact this
                  · have i0 : A.drop i = [] := List.drop_of_length_le (by have := HAM.out; have := HI.out; have := HJ.out; have := HEN.out; omega)
                    refine ⟨R1 ++ D.drop j, MrgP.join hw HSA.out HSD.out HCUT.out HM1.out (by rw [i0]; exact Mrg.right (srt_dr HSD.out j)), rfl, ?_, HG2.out⟩
                    have := HO2.out
                    rw [i0] at this
                    rw [List.append_assoc]; exact this
                · have kk : mid < en ∧ en < e := by have := HB3.out; simpa using this
                  have HCX := Lib.hid (IH.out mid en e (P ++ R1) (A.drop i) (D.drop j) S _ (by rw [List.length_drop, List.length_drop]; have := HF.out; have := HAM.out; have := HDE.out; omega) (by have := HO2.out; rw [List.append_assoc]; exact this) (by rw [List.length_append, HPA.out, HR1.out]; omega) (by rw [List.length_drop]; have := HAM.out; have := HI.out; have := HJ.out; omega) (by rw [List.length_drop]; have := HDE.out; have := HJ.out; omega) kk.1 kk.2 ((HC.out.later HG2.out).sub (fun z hz => by rcases List.mem_append.1 hz with hz | hz; exact List.mem_append_left _ (List.mem_of_mem_drop hz); exact List.mem_append_right _ (List.mem_of_mem_drop hz))) (srt_dr HSA.out i) (srt_dr HSD.out j))
                  go_wp2_with (go_at_call 80; (with_reducible refine HCX.out.mono ?_); rintro e w1 ⟨R2, hm2, rfl, ho, hg⟩; have HO3 := Lib.hid ho; have HG3 := Lib.hid hg; have HM2 := Lib.hid hm2; clear ho hg hm2)
                  go_end0
                  refine ⟨R1 ++ R2, MrgP.join hw HSA.out HSD.out HCUT.out HM1.out HM2.out, rfl, ?_, HG2.out.trans HG3.out⟩
                  have := HO3.out
                  rw [List.append_assoc] at this
                  rw [List.append_assoc]; exact this
theorem symMerge_any {cf : Int → Int → Int} (hw : Swo (ltOf cf)) (g : Nat) (cb : Array Value) (B b n c : Nat) (hn : n ≤ 1000) : ∀ f : Nat, SymIH cf g cb B b n c f := by
  intro f
  induction f with
  | zero => intro a m e P A D S w h0 hO ha hm he ham hme; omega
  | succ f ih =>
    intro a m e P A D S w hf hO ha hm he ham hme hC hA hD
    by_cases hA1 : A.length = 1
    · obtain ⟨x, rfl⟩ : ∃ x, A = [x] := List.length_eq_one_iff.1 hA1
      exact symA1 hw g cb B b n c a m e x P D S w hn hO ha hm he hme hC hD
    by_cases hD1 : D.length = 1
    · obtain ⟨x, rfl⟩ : ∃ x, D = [x] := List.length_eq_one_iff.1 hD1
      exact symB1 hw g cb B b n c a m e x P A S w hn hO ha hm he hA1 ham (hC.sub (fun y hy => by rcases List.mem_cons.1 hy with rfl | hy <;> simp [*])) hA
    by_cases hk : (a + e) / 2 < m
    · exact symC hw g cb B b n c hn f ih a m e P A D S w hf hO ha hm he ham hme hC hA hD hA1 hD1 hk
    · exact symD hw g cb B b n c hn f ih a m e P A D S w hf hO ha hm he ham hme hC hA hD hA1 hD1 (by omega)
end Go.Proofs.Ytgldgomjlcojaaa
