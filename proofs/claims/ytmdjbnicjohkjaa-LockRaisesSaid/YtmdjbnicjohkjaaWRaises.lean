/- The walk of LockRaises: it returns true. The conditions: the tasks read as named; their lists are no longer than memory bears. -/
import Derived.Test.YtmdjbnicjohkjaaTkMany
import Derived.Test.YtmdjbnicjohkjaaLkSane
namespace Go.Proofs.Ytmdjbnicjohkjaa
open Go.RowKit
set_option linter.unusedSimpArgs false
set_option linter.unusedVariables false
theorem Raised_is {a : Option Addr} {n c : Nat} {L : List Ta} {t p x e : Int} {w : World} (hL : RdL w a n L) (h : raisedR L t p = (x, e)) :
    Calls Try.prog 35 #[.slice a n c, .int .i64 t, .int .i64 p] w fun en w' => en = rII x e ∧ Below w.heap.size w w' := by
  have := Raised_any a n c L t p w hL
  rw [h] at this; exact this
theorem rRaised_is {a : Option Addr} {n c : Nat} {L : List Ta} {t p x e : Int} {w : World} (hL : RdL w a n L) (h : raisedR L t p = (x, e)) :
    Calls Try.prog 36 #[.slice a n c, .int .i64 t, .int .i64 p] w fun en w' => en = rII x e ∧ Below w.heap.size w w' := by
  have := rRaised_any a n c L t p w hL
  rw [h] at this; exact this
set_option maxRecDepth 10000 in
set_option maxHeartbeats 4000000 in
theorem lockRaises_walk {w : World} (a : Option Addr) (n c : Nat) (L : List Ta) (hL : RdL w a n L) (hT : ∀ t ∈ L, t.pcs.length ≤ 281474976710656) (hN : NilOk a n c) (t : Int) (_ : -9223372036854775808 ≤ t ∧ t ≤ 9223372036854775807) (p : Int) (_ : -9223372036854775808 ≤ p ∧ p ≤ 9223372036854775807) :
    Calls Try.prog 8 #[.slice a n c, .int .i64 t, .int .i64 p] w fun e w' => e = .returned (.bool true) ∧ Below w.heap.size w w' := by
  have HM := Lib.hid (many_any a n c L w hL hT)
  have HR := Lib.hid hL
  cases hm : manyL n L
  · rw [hm] at HM
    obtain ⟨hn, hP⟩ := manyL_no hm
    obtain ⟨x, e, hx⟩ : ∃ x e, raisedR L t p = (x, e) := ⟨_, _, rfl⟩
    have HX := Lib.hid hx
    by_cases he : e = 0
    · subst he
      obtain ⟨i, j, u, v, rfl, rfl, hu, hv, hr, hxe⟩ := raised_ok (L := L) (t := t) (p := p) (by rw [hx])
      rw [hx] at hxe
      simp only [] at hxe
      have hil := (List.getElem?_eq_some_iff.1 hu).1
      rw [hL.length] at hil
      have hcu := ceil_used hu hv
      rw [hL.length] at hcu
      have hx0 : 0 ≤ x ∧ x < n := by
        rw [hxe]; split
        · omega
        · exact ⟨hcu.1, hcu.2.1⟩
      have hxa : aheadB L i x = false := by
        rw [hxe]; apply aheadB_no.2
        split
        · exact ahead_irr _
        · exact hcu.2.2
      have hxc : ¬ v.2 < 0 → x = ceilG L v.2 := fun q => by rw [hxe, if_neg q]
      obtain ⟨u', b, off, pa, pn, pc, rfl, hb, _, _, _, _, _, c5, hp, _, hu', _⟩ := hL.at_ i hil
      obtain rfl : u = u' := by rw [hu] at hu'; simpa using hu'
      have hps := hp.small
      have hjn : j < pn := by have := (List.getElem?_eq_some_iff.1 hv).1; rw [hp.length] at this; exact this
      obtain ⟨v', b1, off1, rfl, hb1, e1, e2, hv', _⟩ := hp.piece j hjn
      obtain rfl : v = v' := by rw [hv] at hv'; simpa using hv'
      have C5 : Hid (∀ w1 : World, Below w.heap.size w w1 → w1.cell? ⟨b, off + i * 6 + 5, none⟩ = some (.slice (some ⟨b1, off1, none⟩) pn pc)) := Lib.hid (fun w1 h => (h.cell (p := ⟨b, off + i * 6 + 5, none⟩) hb).trans c5)
      obtain ⟨x0, y⟩ := v
      have E2 : Hid (∀ w1 : World, Below w.heap.size w w1 → w1.cell? ⟨b1, off1 + j * 2 + 1, none⟩ = some (.int .i64 y)) := Lib.hid (fun w1 h => (h.cell (p := ⟨b1, off1 + j * 2 + 1, none⟩) hb1).trans e2)
      simp only [] at hxc
      have HXA := Lib.hid hxa
      have HXC := Lib.hid hxc
      have HPN := Lib.hid hP
      clear hL hT hm hx hu hv hr hxe hcu hxa hxc c5 e1 e2 hp hu' hv' hP
      go_enter Try.func8, Try.ntmps8
      go_wp2_with (first
      | (go_at_call 34; refine (HM.out).mono ?_; rintro e w1 ⟨rfl, rfl⟩)
      | (go_at_call 35; (with_reducible refine (Raised_is HR.out HX.out).mono ?_); rintro e w1 ⟨rfl, hb1⟩; have B1 := Lib.hid hb1; clear hb1)
      | (go_at_call 36; (with_reducible refine (rRaised_is (HR.out.ext B1.out) HX.out).mono ?_); rintro e w2 ⟨rfl, hb2⟩; have B2 := Lib.hid hb2; clear hb2)
      | (go_at_call 14; (with_reducible refine (sane_any _).mono ?_); rintro e w9 ⟨rfl, hb9⟩; have B9 := Lib.hid hb9; clear hb9)
      | (go_at_call 37; (with_reducible refine (rahead_is ((HR.out.ext B1.out).ext B2.out) ⟨by omega, by omega⟩ hx0 HXA.out).mono ?_); rintro e w3 ⟨rfl, hb3⟩; have B3 := Lib.hid hb3; clear hb3))
      go_loopw [11] (fun v wr => ∃ k : Nat, k ≤ n ∧ v = .int .i64 k ∧ Below w.heap.size w wr) (fun v _ => n - (intOf v).toNat)
      case atStart => exact ⟨0, Nat.zero_le _, rfl, (by repeat (first | (with_reducible exact Below.refl _ _) | (refine Below.then ?_ (Hid.out (by with_reducible assumption)))))⟩
      case round =>
        obtain ⟨k, hk, rfl, hB⟩ := hrel
        have HB := Lib.hid hB
        clear hB
        by_cases hlt : k < n
        · obtain ⟨u2, b2, off2, qa, qn, qc, e3, hb2, _, _, _, _, _, d5, hq, _, hu2, _⟩ := HR.out.at_ k hlt
          simp at e3
          obtain ⟨rfl, rfl⟩ := e3
          have hqs := hq.small
          have HQ := Lib.hid hq
          have HQC : Hid (∀ (m : Nat) (z : P2), u2.pcs[m]? = some z → z.2 = y → ¬ y < 0 → aheadB L k x = false) := Lib.hid (fun m z hz e hy => by
            rw [HXC.out (by omega), ← e]; exact aheadB_no.2 (ceil_used hu2 hz).2.2)
          have D5 : Hid (∀ w1 : World, Below w.heap.size w w1 → w1.cell? ⟨b, off + k * 6 + 5, none⟩ = some (.slice qa qn qc)) := Lib.hid (fun w1 h => (h.cell (p := ⟨b, off + k * 6 + 5, none⟩) hb).trans d5)
          clear hq hu2 d5
          go_wp2
          go_loopw [12] (fun v wr => ∃ m : Nat, m ≤ qn ∧ v = .int .i64 m ∧ Below w.heap.size w wr) (fun v _ => qn - (intOf v).toNat)
          case atStart => exact ⟨0, Nat.zero_le _, rfl, HB.out⟩
          case round =>
            clear HB
            obtain ⟨m, hm, rfl, hB⟩ := hrel
            have HB := Lib.hid hB
            have c5 := C5.out _ hB
            have d5 := D5.out _ hB
            have c6 := E2.out _ hB
            have hbw : b < wr.heap.size := Nat.lt_of_lt_of_le hb hB.size
            have hbw1 : b1 < wr.heap.size := Nat.lt_of_lt_of_le hb1 hB.size
            clear hB
            by_cases hmt : m < qn
            · obtain ⟨z, b3, off3, rfl, hb3, _, f2, hz, _⟩ := (HQ.out.ext HB.out).piece m hmt
              obtain ⟨z1, z2⟩ := z
              simp only [] at f2
              by_cases h1 : 0 ≤ y
              · by_cases h2 : z2 = y
                · have HQA := Lib.hid (HQC.out m _ hz h2 (by omega))
                  have h2' : (z2 == y) = true := by simpa using h2
                  clear hz
                  go_wp2_with (refine wp_region_later_lit (by kernel_rfl) (by kernel_rfl) ?_; (repeat (go_big_quiet_step ((go_at_call 37; exact later_of (rahead_is (later_rdL HR.out HB.out) ⟨by omega, by omega⟩ hx0 HQA.out))))); refine wpQuiet_nil ?_; intro w4 hb4)
                  go_roundw
                  case rel => exact ⟨m + 1, by omega, by go_num, Below.then HB.out hb4⟩
                  case measure => simp [intOf]; omega
                · have h2' : (z2 == y) = false := by simpa using h2
                  clear hz
                  go_wp2_with (refine wp_region_later_lit (by kernel_rfl) (by kernel_rfl) ?_; (repeat (go_big_quiet_step (fail))); refine wpQuiet_nil ?_; intro w4 hb4)
                  go_roundw
                  case rel => exact ⟨m + 1, by omega, by go_num, Below.then HB.out hb4⟩
                  case measure => simp [intOf]; omega
              · have h1' : decide (0 ≤ y) = false := by simpa using h1
                clear hz
                go_wp2_with (refine wp_region_later_lit (by kernel_rfl) (by kernel_rfl) ?_; (repeat (go_big_quiet_step (fail))); refine wpQuiet_nil ?_; intro w4 hb4)
                go_roundw
                case rel => exact ⟨m + 1, by omega, by go_num, Below.then HB.out hb4⟩
                case measure => simp [intOf]; omega
            · go_wp2
              go_roundw
              case rel => exact ⟨k + 1, by omega, by go_num, HB.out⟩
              case measure => simp [intOf]; omega
        · go_wp2_with (go_at_call 14; (with_reducible refine (sane_any _).mono ?_); rintro e w9 ⟨rfl, hb9⟩; have B9 := Lib.hid hb9; clear hb9)
          go_ret
          exact ⟨rfl, (by repeat (first | (with_reducible exact Below.refl _ _) | (refine Below.then ?_ (Hid.out (by with_reducible assumption)))))⟩
    · have he' : (e != 0) = true := by simpa using he
      clear hL hT hm hx hP
      go_enter Try.func8, Try.ntmps8
      go_wp2_with (first
      | (go_at_call 34; refine (HM.out).mono ?_; rintro e w1 ⟨rfl, rfl⟩)
      | (go_at_call 35; (with_reducible refine (Raised_is HR.out HX.out).mono ?_); rintro e w1 ⟨rfl, hb1⟩; have B1 := Lib.hid hb1; clear hb1)
      | (go_at_call 36; (with_reducible refine (rRaised_is (HR.out.ext B1.out) HX.out).mono ?_); rintro e w2 ⟨rfl, hb2⟩; have B2 := Lib.hid hb2; clear hb2)
      | (go_at_call 14; (with_reducible refine (sane_any _).mono ?_); rintro e w9 ⟨rfl, hb9⟩; have B9 := Lib.hid hb9; clear hb9))
      go_ret
      exact ⟨rfl, (by repeat (first | (with_reducible exact Below.refl _ _) | (refine Below.then ?_ (Hid.out (by with_reducible assumption)))))⟩
  · rw [hm] at HM
    clear hL hT hm
    go_enter Try.func8, Try.ntmps8
    go_wp2_with (first
      | (go_at_call 34; refine (HM.out).mono ?_; rintro e w1 ⟨rfl, rfl⟩)
      | (go_at_call 14; (with_reducible refine (sane_any _).mono ?_); rintro e w9 ⟨rfl, hb9⟩; have B9 := Lib.hid hb9; clear hb9))
    go_ret
    exact ⟨rfl, (by repeat (first | (with_reducible exact Below.refl _ _) | (refine Below.then ?_ (Hid.out (by with_reducible assumption)))))⟩
end Go.Proofs.Ytmdjbnicjohkjaa
