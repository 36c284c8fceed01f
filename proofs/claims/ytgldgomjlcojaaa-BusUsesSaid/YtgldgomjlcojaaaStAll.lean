/- The contract of slices.SortStableFunc at ints, up to 40 of them. The conditions: the row is the caller's own; the comparison leaves it alone. -/
import Derived.Test.YtgldgomjlcojaaaStSym
namespace Go.Proofs.Ytgldgomjlcojaaa
open Go.RowKit
set_option linter.unusedSimpArgs false
set_option linter.unusedVariables false
set_option maxRecDepth 100000 in
set_option maxHeartbeats 8000000 in
theorem stable40 {cf : Int → Int → Int} (hw : Swo (ltOf cf)) (g : Nat) (cb : Array Value) (B b n c : Nat) (xs : List Int) (w : World) (hn1 : 20 ≤ n) (hn2 : n ≤ 40) (hO : w.ownsRow B 3 1 (.slice (some ⟨b, 0, none⟩) n c) n (xs.flatMap enc1)) (hC : CmpOn g cb cf b xs w) :
    Calls Try.prog 77 #[.slice (some ⟨b, 0, none⟩) n c, .int .i64 n, .func (.func g) #[] cb] w (SortP B w b n c (isortL (ltOf cf) xs)) := by
  have hlen : xs.length = n := (ownsI_rd hO).length
  obtain ⟨X1, hX1⟩ : ∃ X1, xs.take 20 = X1 := ⟨_, rfl⟩
  obtain ⟨X2, hX2⟩ : ∃ X2, xs.drop 20 = X2 := ⟨_, rfl⟩
  obtain ⟨S1, hS1⟩ : ∃ S1, isortL (ltOf cf) X1 = S1 := ⟨_, rfl⟩
  obtain ⟨S2, hS2⟩ : ∃ S2, isortL (ltOf cf) X2 = S2 := ⟨_, rfl⟩
  obtain ⟨R, hR⟩ : ∃ R, isortL (ltOf cf) xs = R := ⟨_, rfl⟩
  have hxs : xs = X1 ++ X2 := by rw [← hX1, ← hX2, List.take_append_drop]
  have l1 : X1.length = 20 := by rw [← hX1, List.length_take]; omega
  have l2 : 20 + X2.length = n := by rw [← hX2, List.length_drop]; omega
  have l3 : S1.length = 20 := by rw [← hS1, (isort_perm _ _).length_eq, l1]
  have l4 : 20 + S2.length = n := by rw [← hS2, (isort_perm _ _).length_eq, l2]
  have HMR : Hid (∀ M, Mrg (ltOf cf) S1 S2 M → M = R) := Lib.hid (fun M hM => by rw [← hR, hxs]; rw [← hS1, ← hS2] at hM; exact hM.sort hw)
  have s1 : Srt (ltOf cf) S1 := by rw [← hS1]; exact isort_srt hw _
  have s2 : Srt (ltOf cf) S2 := by rw [← hS2]; exact isort_srt hw _
  have HE : Hid (n = 20 → S1 ++ S2 = R) := Lib.hid (fun h => by
    have : S2 = [] := List.length_eq_zero_iff.1 (by omega)
    rw [this, List.append_nil, ← hR, hxs, ← hS1]
    have : X2 = [] := List.length_eq_zero_iff.1 (by omega)
    rw [this, List.append_nil])
  have HM1 : Hid (∀ x ∈ X1, x ∈ xs) := Lib.hid (fun x hx => by rw [hxs]; exact List.mem_append_left _ hx)
  have HM2 : Hid (∀ x ∈ X2, x ∈ xs) := Lib.hid (fun x hx => by rw [hxs]; exact List.mem_append_right _ hx)
  have HM3 : Hid (∀ x ∈ S1 ++ S2, x ∈ xs) := Lib.hid (fun x hx => by
    rw [hxs]
    rcases List.mem_append.1 hx with h | h
    · rw [← hS1, (isort_perm _ _).mem_iff] at h; exact List.mem_append_left _ h
    · rw [← hS2, (isort_perm _ _).mem_iff] at h; exact List.mem_append_right _ h)
  have HI1 : Hid (∀ wr : World, w.grownBy wr (some b) → wr.ownsRow B 3 1 (.slice (some ⟨b, 0, none⟩) n c) n ((X1 ++ X2).flatMap enc1) → Calls Try.prog 79 #[.slice (some ⟨b, 0, none⟩) n c, .int .i64 0, .int .i64 20, .func (.func g) #[] cb] wr (SortP B wr b n c (S1 ++ X2))) := Lib.hid (fun wr hg ho => by
    have := insertion_any g cb cf B b n c 0 20 [] X1 X2 wr (by omega) ho rfl (by omega) ((hC.later hg).sub (by rw [hxs]; intro x hx; exact List.mem_append_left _ hx))
    rw [List.nil_append, hS1] at this; exact this)
  have HI2 : Hid (∀ wr : World, w.grownBy wr (some b) → wr.ownsRow B 3 1 (.slice (some ⟨b, 0, none⟩) n c) n ((S1 ++ X2).flatMap enc1) → ∀ N : Int, N = (n : Int) → Calls Try.prog 79 #[.slice (some ⟨b, 0, none⟩) n c, .int .i64 20, .int .i64 N, .func (.func g) #[] cb] wr (SortP B wr b n c (S1 ++ S2))) := Lib.hid (fun wr hg ho N hN => by
    subst hN
    have := insertion_any g cb cf B b n c 20 n S1 X2 [] wr (by omega) (by simpa using ho) l3 l2 ((hC.later hg).sub (by rw [hxs]; intro x hx; exact List.mem_append_right _ hx))
    rw [hS2, List.append_nil] at this; exact this)
  have HI3 : Hid (∀ wr : World, w.grownBy wr (some b) → wr.ownsRow B 3 1 (.slice (some ⟨b, 0, none⟩) n c) n ((S1 ++ S2).flatMap enc1) → n = 40 → ∀ N : Int, N = (n : Int) → Calls Try.prog 79 #[.slice (some ⟨b, 0, none⟩) n c, .int .i64 40, .int .i64 N, .func (.func g) #[] cb] wr (SortP B wr b n c (S1 ++ S2))) := Lib.hid (fun wr hg ho h40 N hN => by
    subst hN
    have := insertion_any g cb cf B b n c 40 n (S1 ++ S2) [] [] wr (by omega) (by simpa using ho) (by rw [List.length_append]; omega) (by simp; omega) ((hC.later hg).sub (by simp))
    simpa [isortL] using this)
  have HSY : Hid (∀ wr : World, w.grownBy wr (some b) → wr.ownsRow B 3 1 (.slice (some ⟨b, 0, none⟩) n c) n ((S1 ++ S2).flatMap enc1) → 20 < n → ∀ N : Int, N = (n : Int) → Calls Try.prog 80 #[.slice (some ⟨b, 0, none⟩) n c, .int .i64 0, .int .i64 20, .int .i64 N, .func (.func g) #[] cb] wr (SortP B wr b n c R)) := Lib.hid (fun wr hg ho h20 N hN => by
    subst hN
    have := symMerge_any hw g cb B b n c (by omega) 40 0 20 n [] S1 S2 [] wr (by omega) (by simpa using ho) rfl (by omega) l4 (by omega) h20 ((hC.later hg).sub HM3.out) s1 s2
    refine this.mono ?_
    rintro e w1 ⟨M, hM, hP⟩
    rw [List.nil_append, List.append_nil, HMR.out M hM] at hP
    exact hP)
  have HO0 : Hid (w.ownsRow B 3 1 (.slice (some ⟨b, 0, none⟩) n c) n ((X1 ++ X2).flatMap enc1)) := Lib.hid (by rw [← hxs]; exact hO)
  rw [hR]
  clear hO hC hlen hX1 hX2 hS1 hS2 hR hxs l1 l2 l3 l4 s1 s2
  have cN : n = 20 ∨ (20 < n ∧ n < 40) ∨ n = 40 := by omega
  have q0 : (20 : Int) ≤ (n : Int) := by omega
  have q0' : 20 ≤ n := hn1
  go_enter Try.func77, Try.ntmps77
  go_wp2
  go_loopw [7, 8] (fun u v wr => (u = .int .i64 0 ∧ v = .int .i64 20 ∧ w = wr) ∨ (u = .int .i64 20 ∧ v = .int .i64 40 ∧ wr.ownsRow B 3 1 (.slice (some ⟨b, 0, none⟩) n c) n ((S1 ++ X2).flatMap enc1) ∧ w.grownBy wr (some b)) ∨ (u = .int .i64 40 ∧ v = .int .i64 60 ∧ n = 40 ∧ wr.ownsRow B 3 1 (.slice (some ⟨b, 0, none⟩) n c) n ((S1 ++ S2).flatMap enc1) ∧ w.grownBy wr (some b))) (fun u _ _ => 40 - (intOf u).toNat)
  case atStart => exact .inl ⟨rfl, rfl, rfl⟩
  case round =>
    rcases hrel with ⟨rfl, rfl, rfl⟩ | ⟨rfl, rfl, ho, hg⟩ | ⟨rfl, rfl, h40, ho, hg⟩
    · as_aux_lemma =>
      go_wp2_with (go_at_call 79; (with_reducible refine (HI1.out _ (World.grownBy.refl _ _) HO0.out).mono ?_); rintro e w1 ⟨rfl, ho, hg⟩; have HO := Lib.hid ho; have HG := Lib.hid hg; clear ho hg)
      go_roundw
      case rel => exact .inr (.inl ⟨rfl, rfl, HO.out, HG.out⟩)
      case measure => simp [intOf]
    · have HO := Lib.hid ho; have HG := Lib.hid hg
      clear ho hg
      rcases Nat.lt_or_ge n 40 with h40 | h40
      · as_aux_lemma =>
        have z1 : ¬ (40 : Int) ≤ (n : Int) := by omega
        have z2 : ¬ 40 ≤ n := by omega
        have z3 : ¬ 40 < n := by omega
        have z4 : ¬ (40 : Int) < (n : Int) := by omega
        go_wp2_with (go_at_call 79; (with_reducible refine (HI2.out _ HG.out HO.out _ (by first | rfl | omega)).mono ?_); rintro e w1 ⟨rfl, ho, hg⟩; have HO1 := Lib.hid ho; have HG1 := Lib.hid (HG.out.trans hg); clear ho hg)
        go_loopw [6] (fun u wr => (u = .int .i64 20 ∧ w1 = wr) ∨ (u = .int .i64 40 ∧ wr.ownsRow B 3 1 (.slice (some ⟨b, 0, none⟩) n c) n (R.flatMap enc1) ∧ w.grownBy wr (some b))) (fun u _ => 40 - (intOf u).toNat)
        case atStart => exact .inl ⟨rfl, rfl⟩
        case round =>
          rcases hrel with ⟨rfl, rfl⟩ | ⟨rfl, ho, hg⟩
          · rcases Nat.lt_or_ge 20 n with h20 | h20
            · have z5 : (20 : Int) < (n : Int) := by omega
              go_wp2
              go_loopw [7, 8] (fun u v wr => u = .int .i64 0 ∧ v = .int .i64 40 ∧ w1 = wr) (fun _ _ _ => 0)
              case atStart => exact ⟨rfl, rfl, rfl⟩
              case round =>
                obtain ⟨rfl, rfl, rfl⟩ := hrel
                go_wp2_with (go_at_call 80; (with_reducible refine (HSY.out _ HG1.out HO1.out h20 _ (by first | rfl | omega)).mono ?_); rintro e w2 ⟨rfl, ho, hg⟩; have HO2 := Lib.hid ho; have HG2 := Lib.hid (HG1.out.trans hg); clear ho hg)
                go_roundw
                case rel => exact .inr ⟨rfl, HO2.out, HG2.out⟩
                case measure => simp [intOf]
            · obtain rfl : n = 20 := by omega
              go_wp2
              go_end0
              exact ⟨rfl, by rw [← HE.out (by simp)]; exact HO1.out, HG1.out⟩
          · have HO2 := Lib.hid ho; have HG2 := Lib.hid hg
            clear ho hg
            go_wp2
            go_end0
            exact ⟨rfl, HO2.out, HG2.out⟩
      · as_aux_lemma =>
        have z1 : (40 : Int) ≤ (n : Int) := by omega
        have z2 : 40 ≤ n := h40
        have H40 := Lib.hid (show n = 40 by omega)
        go_wp2_with (go_at_call 79; (with_reducible refine (HI2.out _ HG.out HO.out _ (by first | rfl | omega)).mono ?_); rintro e w1 ⟨rfl, ho, hg⟩; have HO1 := Lib.hid ho; have HG1 := Lib.hid (HG.out.trans hg); clear ho hg)
        go_roundw
        case rel => exact .inr (.inr ⟨rfl, rfl, H40.out, HO1.out, HG1.out⟩)
        case measure => simp [intOf]
    · as_aux_lemma =>
      have H40 := Lib.hid h40
      have z1 : ¬ (60 : Int) ≤ (n : Int) := by omega
      have z2 : ¬ 60 ≤ n := by omega
      have z3 : ¬ 60 < n := by omega
      have z4 : ¬ (60 : Int) < (n : Int) := by omega
      have z5 : ¬ 40 < n := by omega
      have z6 : ¬ (40 : Int) < (n : Int) := by omega
      have z7 : 20 < n := by omega
      have z8 : (20 : Int) < (n : Int) := by omega
      have z9 : 40 ≤ n := by omega
      have y1 : (40 : Int) ≤ (n : Int) := by omega
      have y2 : ¬ 80 ≤ n := by omega
      have y3 : ¬ (80 : Int) ≤ (n : Int) := by omega
      have HN := Lib.hid (show (40 : Int) = (n : Int) by omega)
      clear h40 cN
      have HO := Lib.hid ho; have HG := Lib.hid hg
      clear ho hg
      go_wp2_with (go_at_call 79; (with_reducible refine (HI3.out _ HG.out HO.out H40.out _ rfl).mono ?_); rintro e w1 ⟨rfl, ho, hg⟩; have HO1 := Lib.hid ho; have HG1 := Lib.hid (HG.out.trans hg); clear ho hg)
      go_loopw [6] (fun u wr => (u = .int .i64 20 ∧ w1 = wr) ∨ (u = .int .i64 40 ∧ wr.ownsRow B 3 1 (.slice (some ⟨b, 0, none⟩) n c) n (R.flatMap enc1) ∧ w.grownBy wr (some b))) (fun u _ => 40 - (intOf u).toNat)
      case atStart => exact .inl ⟨rfl, rfl⟩
      case round =>
        rcases hrel with ⟨rfl, rfl⟩ | ⟨rfl, ho, hg⟩
        · go_wp2
          go_loopw [7, 8] (fun u v wr => (u = .int .i64 0 ∧ v = .int .i64 40 ∧ w1 = wr) ∨ (u = .int .i64 40 ∧ v = .int .i64 80 ∧ wr.ownsRow B 3 1 (.slice (some ⟨b, 0, none⟩) n c) n (R.flatMap enc1) ∧ w.grownBy wr (some b))) (fun u _ _ => 40 - (intOf u).toNat)
          case atStart => exact .inl ⟨rfl, rfl, rfl⟩
          case round =>
            rcases hrel with ⟨rfl, rfl, rfl⟩ | ⟨rfl, rfl, ho, hg⟩
            · go_wp2_with (go_at_call 80; (with_reducible refine (HSY.out _ HG1.out HO1.out z7 _ HN.out).mono ?_); rintro e w2 ⟨rfl, ho, hg⟩; have HO2 := Lib.hid ho; have HG2 := Lib.hid (HG1.out.trans hg); clear ho hg)
              go_roundw
              case rel => exact .inr ⟨rfl, rfl, HO2.out, HG2.out⟩
              case measure => simp [intOf]
            · have HO2 := Lib.hid ho; have HG2 := Lib.hid hg
              clear ho hg
              go_wp2
              go_roundw
              case rel => exact .inr ⟨rfl, HO2.out, HG2.out⟩
              case measure => simp [intOf]
        · have HO2 := Lib.hid ho; have HG2 := Lib.hid hg
          clear ho hg
          go_wp2
          go_end0
          exact ⟨rfl, HO2.out, HG2.out⟩
theorem sortStable40 {cf : Int → Int → Int} (hw : Swo (ltOf cf)) (g : Nat) (cb : Array Value) (B b n c : Nat) (xs : List Int) (w : World) (hn : n ≤ 40) (hO : w.ownsRow B 3 1 (.slice (some ⟨b, 0, none⟩) n c) n (xs.flatMap enc1)) (hC : CmpOn g cb cf b xs w) :
    Calls Try.prog 70 #[.slice (some ⟨b, 0, none⟩) n c, .func (.func g) #[] cb] w (SortP B w b n c (isortL (ltOf cf) xs)) := by
  by_cases h : n < 20
  · exact sortStable_any g cb cf B b n c xs w h hO hC
  have HS := Lib.hid (stable40 hw g cb B b n c xs w (by omega) hn hO hC)
  clear hO hC
  go_enter Try.func70, Try.ntmps70
  go_wp2_with (go_at_call 77; refine HS.out.mono ?_; rintro e w1 ⟨rfl, ho, hg⟩; have HO := Lib.hid ho; have HG := Lib.hid hg; clear ho hg)
  go_end0
  exact ⟨rfl, HO.out, HG.out⟩
end Go.Proofs.Ytgldgomjlcojaaa
