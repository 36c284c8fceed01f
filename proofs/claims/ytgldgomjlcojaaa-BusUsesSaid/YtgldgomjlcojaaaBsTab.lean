/- Contracts of the reference's table, count, owned and delay. The conditions: the slices read as named; numbers in range. -/
import Derived.Test.YtgldgomjlcojaaaBsVal
namespace Go.Proofs.Ytgldgomjlcojaaa
open Go.RowKit
set_option linter.unusedSimpArgs false
set_option linter.unusedVariables false
set_option maxHeartbeats 1000000 in
theorem table_any (a : Option Addr) (n c : Nat) (l : List P2) (w : World) (hR : Rd w a n 2 (l.map enc2)) (hv : validS l = true) :
    Calls Try.prog 48 #[.slice a n c] w (OutI w.heap.size w (tableS l)) := by
  have hs := hR.small
  have htl := (tableS_len hv).2
  have HV := Lib.hid (validS_iff.1 hv).2.2
  obtain ⟨R, hr⟩ : ∃ R, R = tableS l := ⟨_, rfl⟩
  rw [← hr] at htl ⊢
  have HST : Hid ([] ++ tableS (l.drop 0) = R) := Lib.hid hr.symm
  have HL := Lib.hid hR.length; have HR := Lib.hid hR; clear hR hv hr
  have e1 := E1
  go_enter Try.func48, Try.ntmps48
  go_wp2
  go_loopw [3, 4] (fun v i wr => ∃ (k : Nat) (T : List Int) (a' : Option Addr) (c' : Nat), k ≤ n ∧ v = .slice a' T.length c' ∧ i = .int .i64 k ∧ wr.ownsRow w.heap.size 3 1 (.slice a' T.length c') T.length (T.flatMap enc1) ∧ T ++ tableS (l.drop k) = R ∧ Below w.heap.size w wr) (fun _ i _ => n - (intOf i).toNat)
  case atStart => exact ⟨0, [], none, 0, Nat.zero_le _, rfl, rfl, World.ownsRow_nil _ _ _ _, HST.out, by (repeat' (first | (with_reducible exact Below.refl _ _) | (with_reducible assumption) | (with_reducible refine Below.alloc ?_ ?_ _) | (with_reducible refine Below.drew ?_) | (with_reducible refine Below.draws ?_ _) | (with_reducible refine Below.setCell ?_ ?_ _) | (refine Below.then ?_ (by with_reducible assumption)) | go_size))⟩
  case round =>
    obtain ⟨k, T, a', c', hk, rfl, rfl, hown, he, hB⟩ := hrel
    have HE := Lib.hid he; have HO := Lib.hid hown; have HB := Lib.hid hB
    clear he hown hB HST
    by_cases hlt : k < n
    · obtain ⟨⟨o, sp⟩, b, off, rfl, hb, h1, h2, HD⟩ := HR.out.next2 k hlt
      have hsp := HV.out (o, sp) (List.mem_of_mem_drop (i := k) (by rw [HD.out]; simp))
      simp only [] at hsp h1 h2
      obtain ⟨span, rfl⟩ := Int.eq_ofNat_of_zero_le (show 0 ≤ sp by omega)
      have hspan : span ≤ 50 := by omega
      have HE2 : Hid (T ++ (List.replicate (span - 0) o ++ tableS (l.drop (k + 1))) = R) := by have := HE.out; rw [HD.out, tableS_cons] at this; exact Lib.hid this
      clear hsp HD HE
      go_wp2
      go_loopw [3, 5] (fun v i wr => ∃ (j : Nat) (T : List Int) (a' : Option Addr) (c' : Nat), j ≤ span ∧ v = .slice a' T.length c' ∧ i = .int .i64 j ∧ wr.ownsRow w.heap.size 3 1 (.slice a' T.length c') T.length (T.flatMap enc1) ∧ T ++ (List.replicate (span - j) o ++ tableS (l.drop (k + 1))) = R ∧ Below w.heap.size w wr) (fun _ i _ => span - (intOf i).toNat)
      case atStart => exact ⟨0, T, a', c', Nat.zero_le _, rfl, rfl, HO.out, HE2.out, HB.out⟩
      case round =>
        clear HE2 HO HB
        obtain ⟨j, T, a', c', hj, rfl, rfl, hown, he, hB⟩ := hrel
        have HE := Lib.hid he; have HO := Lib.hid hown; have HB := Lib.hid hB
        have hz := hB.size
        have hTl : T.length ≤ 400 := by have := congrArg List.length HE.out; simp at this; omega
        obtain ⟨hcr, hfr, _, _⟩ := bfacts hB
        clear he hown hB
        have hbr : b < wr.heap.size := by omega
        by_cases hjl : j < span
        · have HE3 : Hid ((T ++ [o]) ++ (List.replicate (span - (j + 1)) o ++ tableS (l.drop (k + 1))) = R) := Lib.hid (by
            have := HE.out
            rw [show span - j = (span - (j + 1)) + 1 by omega, List.replicate_succ] at this
            rw [← this]; simp)
          clear HE
          go_wp2_with (at_builtin; refine wpList_push rfl _ _ _ rfl e1 rfl HO.out rfl rfl (by intro u hu; simp at hu; rcases hu with rfl; rfl) (by omega) (by decide) hz ?_; intro a2 c2 w2 hown2 hb2; have HO2 := Lib.hid (ownsI_snoc hown2); have HB2 := Lib.hid hb2; have hz2 := hb2.size; clear hown2 hb2)
          go_roundw
          case rel => exact ⟨j + 1, T ++ [o], a2, c2, by omega, by simp, by go_num, by rw [List.length_append]; exact HO2.out, HE3.out, HB.out.trans HB2.out⟩
          case measure => simp [intOf]; omega
        · have HE3 : Hid (T ++ tableS (l.drop (k + 1)) = R) := Lib.hid (by have := HE.out; rw [show span - j = 0 by omega] at this; simpa using this)
          go_wp2
          go_roundw
          case rel => exact ⟨k + 1, T, a', c', by omega, rfl, by go_num, HO.out, HE3.out, HB.out⟩
          case measure => simp [intOf]; omega
    · have hv : R = T := by rw [← HE.out, drop_end HL.out (by omega)]; simp [tableS]
      subst hv
      go_wp2
      go_ret
      exact ⟨_, _, _, rfl, HO.out, HB.out⟩
theorem hit_at {t : List Int} {m x : Int} {i : Nat} (h : t[i % t.length]? = some x) : hitB t m i = decide (x = m) := by
  unfold hitB; rw [h]; rw [decide_eq_decide]; simp
theorem count_any (a : Option Addr) (n c : Nat) (t : List Int) (m : Int) (w : World) (hR : Rd w a n 1 (t.map enc1)) :
    Calls Try.prog 49 #[.slice a n c, .int .i64 m] w fun e w' => e = .returned (.int .i64 (cnt t m)) ∧ w = w' := by
  have hs := hR.small
  have HL := Lib.hid hR.length
  have HR := Lib.hid hR; clear hR
  go_enter Try.func49, Try.ntmps49
  go_wp2
  go_loop [5, 6] (fun v i => ∃ k : Nat, k ≤ n ∧ i = .int .i64 k ∧ v = .int .i64 (cF t m k)) (fun _ i => n - (intOf i).toNat)
  case atStart => exact ⟨0, Nat.zero_le _, rfl, rfl⟩
  case round =>
    obtain ⟨k, hk, rfl, rfl⟩ := hrel
    by_cases hlt : k < n
    · obtain ⟨x, b, off, rfl, hb, h1, hx⟩ := HR.out.idx k hlt
      have hcb := (cF_add (t := t) (m := m) 0 k).2
      rw [Nat.zero_add] at hcb
      simp only [cF] at hcb
      have HS : Hid (cF t m (k + 1) = cF t m k + if decide (x = m) = true then 1 else 0) := Lib.hid (by rw [cF_succ, hit_at (x := x) (by rw [Nat.mod_eq_of_lt (by rw [HL.out]; exact hlt)]; exact hx)])
      clear hx
      cases q : (x == m)
      · have HS2 : Hid (cF t m (k + 1) = cF t m k) := Lib.hid (by have := HS.out; rw [this]; simp at q; simp [q])
        go_wp2
        go_round
        case rel => exact ⟨k + 1, by omega, by go_num, by rw [HS2.out]⟩
        case measure => simp [intOf]; omega
      · have HS2 : Hid (cF t m (k + 1) = cF t m k + 1) := Lib.hid (by have := HS.out; rw [this]; simp at q; simp [q])
        go_wp2
        go_round
        case rel => exact ⟨k + 1, by omega, by go_num, by rw [HS2.out]; go_num⟩
        case measure => simp [intOf]; omega
    · have hkn : k = t.length := by rw [HL.out]; omega
      have HK := Lib.hid hkn; clear hkn
      go_wp2
      go_ret
      exact ⟨ret_int (by rw [HK.out]; rfl), rfl⟩
theorem Int.div_nat (a b : Nat) : ((a : Int) / (b : Int)) = ((a / b : Nat) : Int) := by simp
theorem Int.mod_nat (a b : Nat) : ((a : Int) % (b : Int)) = ((a % b : Nat) : Int) := by simp
set_option maxHeartbeats 1000000 in
theorem owned_any (a : Option Addr) (n c : Nat) (t : List Int) (m : Int) (fr tk : Nat) (hf : fr ≤ 10000000) (ht : tk ≤ 10000000) (hn : 0 < n) (hn4 : n ≤ 400) (w : World) (hR : Rd w a n 1 (t.map enc1)) :
    Calls Try.prog 59 #[.slice a n c, .int .i64 m, .int .i64 fr, .int .i64 tk] w fun e w' => e = .returned (.int .i64 (wn t m tk fr)) ∧ Below w.heap.size w w' := by
  have hl := hR.length
  obtain ⟨q, hq⟩ : ∃ q, tk / n = q := ⟨_, rfl⟩
  obtain ⟨r, hr⟩ : ∃ r, tk % n = r := ⟨_, rfl⟩
  have e1 : (tk : Int) / (n : Int) = (q : Int) := by rw [Int.div_nat, hq]
  have e2 : (tk : Int) % (n : Int) = (r : Int) := by rw [Int.mod_nat, hr]
  have hrn : r < n := hr ▸ Nat.mod_lt _ hn
  have hqk : q ≤ tk := hq ▸ Nat.div_le_self _ _
  have hcl : cnt t m ≤ 400 := by have := (cF_add (t := t) (m := m) 0 t.length).2; rw [Nat.zero_add] at this; unfold cnt; simp only [cF] at this; omega
  obtain ⟨p, hp⟩ : ∃ p, q * cnt t m = p := ⟨_, rfl⟩
  have e3 : (q : Int) * (cnt t m : Int) = (p : Int) := by rw [← hp]; simp
  have hp4 : p ≤ 4000000000 := by rw [← hp]; have := Nat.mul_le_mul (show q ≤ 10000000 by omega) hcl; omega
  have HW : Hid (wn t m tk fr = (p : Int) + ((cF t m (fr + r) : Int) - cF t m fr)) := Lib.hid (by
    have h1 := cF_mul (t := t) (m := m) (fr + r) q
    have h2 : q * n + r = tk := by rw [← hq, ← hr, Nat.mul_comm]; exact Nat.div_add_mod tk n
    rw [hl] at h1
    rw [show q * n + (fr + r) = fr + tk by omega, hp] at h1
    unfold wn
    rw [h1]; simp; omega)
  rw [HW.out]
  have HL := Lib.hid hl; have HR := Lib.hid hR
  have HC := Lib.hid (fun w' (h : Rd w' a n 1 (t.map enc1)) => count_any a n c t m w' h)
  clear hq hr hp hl hR
  generalize cnt t m = ct at *
  have i1 : (0 : Int) < (n : Int) := by omega
  go_enter Try.func59, Try.ntmps59
  go_wp2_with (refine wp_region_later_lit (by kernel_rfl) (by kernel_rfl) ?_; (repeat (go_big_quiet_step ((go_at_call 49; exact later_same (HC.out _ (later_rd HR.out (Below.refl _ _))))))); refine wpQuiet_nil ?_; intro w1 hb1; obtain ⟨hc1, hf1, hz1, hr1⟩ := bfacts hb1; (try simp only [World.size_alloc, World.size_setCell, World.size_drew, World.size_drewN] at hz1 hr1); (try have hw0 : w.heap.size < w1.heap.size := by omega); (try have hw1 : w.heap.size + 1 < w1.heap.size := by omega); (try have hw2 : w.heap.size + 1 + 1 < w1.heap.size := by omega))
  have HB1 := Lib.hid hb1
  have HR1 := Lib.hid (HR.out.ext hb1)
  have HHR := Lib.hid hr1
  clear hc1 hf1 hz1 hr1 hb1
  go_loop [9, 10] (fun v i => ∃ k : Nat, k ≤ r ∧ i = .int .i64 k ∧ v = .int .i64 ((p : Int) + ((cF t m (fr + k) : Int) - cF t m fr))) (fun _ i => r - (intOf i).toNat)
  case atStart => exact ⟨0, Nat.zero_le _, rfl, by simp⟩
  case round =>
    obtain ⟨k, hk, rfl, rfl⟩ := hrel
    have hcb := cF_add (t := t) (m := m) fr k
    obtain ⟨z, hz⟩ : ∃ z : Nat, z = cF t m (fr + k) - cF t m fr := ⟨_, rfl⟩
    have e4 : (p : Int) + ((cF t m (fr + k) : Int) - cF t m fr) = (p : Int) + z := by omega
    rw [e4]
    have E4 := Lib.hid e4
    have hzk : z ≤ k := by omega
    clear e4
    by_cases hlt : k < r
    · obtain ⟨y, hy⟩ : ∃ y, (fr + k) % n = y := ⟨_, rfl⟩
      have e5 : ((fr : Int) + (k : Int)) % (n : Int) = (y : Int) := by rw [← hy]; simp
      have hyn : y < n := hy ▸ Nat.mod_lt _ hn
      obtain ⟨x, b, off, rfl, hb, h1, hx⟩ := HR1.out.idx y hyn
      have HS : Hid (cF t m (fr + (k + 1)) = cF t m (fr + k) + if decide (x = m) = true then 1 else 0) := Lib.hid (by rw [← Nat.add_assoc, cF_succ, hit_at (x := x) (by rw [HL.out, hy]; exact hx)])
      have HZ := Lib.hid hz
      clear hx hy hz hcb
      cases q : (x == m)
      · have HS2 : Hid ((p : Int) + z = (p : Int) + ((cF t m (fr + (k + 1)) : Int) - cF t m fr)) := Lib.hid (by have h1 := HS.out; have h2 := E4.out; simp at q; simp [q] at h1; rw [h1] <;> omega)
        clear E4
        go_wp2
        go_round
        case rel => exact ⟨k + 1, by omega, by go_num, by rw [HS2.out]⟩
        case measure => simp [intOf]; omega
      · have HS2 : Hid ((p : Int) + z + 1 = (p : Int) + ((cF t m (fr + (k + 1)) : Int) - cF t m fr)) := Lib.hid (by have h1 := HS.out; have h2 := E4.out; simp at q; simp [q] at h1; rw [h1]; push_cast; omega)
        clear E4
        go_wp2
        go_round
        case rel => exact ⟨k + 1, by omega, by go_num, by rw [HS2.out]⟩
        case measure => simp [intOf]; omega
    · have hkr : k = r := by omega
      have HK : Hid ((p : Int) + z = (p : Int) + ((cF t m (fr + r) : Int) - cF t m fr)) := Lib.hid (by rw [← hkr]; exact E4.out.symm)
      clear hkr hz E4 hcb
      go_wp2
      go_ret
      exact ⟨ret_int HK.out, HB1.out⟩
set_option maxHeartbeats 1000000 in
theorem delay_any (a : Option Addr) (n c : Nat) (t : List Int) (m : Int) (mo tk : Nat) (hf : mo ≤ 10000000) (ht : 1 ≤ tk) (ht2 : tk ≤ 1000) (hE : endN t m mo tk ≤ 100000000) (hc : 0 < cnt t m) (hn4 : n ≤ 400) (w : World) (hR : Rd w a n 1 (t.map enc1)) :
    Calls Try.prog 50 #[.slice a n c, .int .i64 m, .int .i64 mo, .int .i64 tk] w fun e w' => e = .returned (.int .i64 (dl t m tk mo)) ∧ w = w' := by
  have hl := hR.length
  have hn : 0 < n := by
    rcases Nat.eq_zero_or_pos n with h | h
    · rw [h] at hl; unfold cnt at hc; rw [hl] at hc; simp [cF] at hc
    · exact h
  obtain ⟨h1, h2, h3⟩ := endN_spec hc (a := mo) ht
  have HLE := Lib.hid (fun x => endN_le hc (a := mo) (x := x) ht)
  obtain ⟨E, hE2⟩ : ∃ E, E = endN t m mo tk := ⟨_, rfl⟩
  have HD : Hid (dl t m tk mo = (E : Int) - mo) := Lib.hid (by rw [hE2]; rfl)
  rw [HD.out]
  rw [← hE2] at h1 h2 h3 hE HLE
  have H1 := Lib.hid h1; have H2 := Lib.hid h2
  have HL := Lib.hid hl; have HR := Lib.hid hR
  clear h1 h2 hl hR hc hE2
  go_enter Try.func50, Try.ntmps50
  go_wp2
  go_loop [3, 9] (fun v i => ∃ d z : Nat, mo + d ≤ E ∧ i = .int .i64 d ∧ v = .int .i64 z ∧ cF t m (mo + d) + z = cF t m mo + tk) (fun _ i => E - mo - (intOf i).toNat)
  case atStart => exact ⟨0, tk, by omega, rfl, rfl, rfl⟩
  case round =>
    obtain ⟨d, z, hd, rfl, rfl, hz⟩ := hrel
    have hcb := cF_add (t := t) (m := m) mo d
    have hzt : z ≤ tk := by omega
    have HZ := Lib.hid hz
    by_cases h0 : 0 < z
    · have hlt : mo + d < E := by
        have := (HLE.out (mo + d))
        omega
      obtain ⟨y, hy⟩ : ∃ y, (mo + d) % n = y := ⟨_, rfl⟩
      have e5 : ((mo : Int) + (d : Int)) % (n : Int) = (y : Int) := by rw [← hy]; simp
      have hyn : y < n := hy ▸ Nat.mod_lt _ hn
      obtain ⟨x, b, off, rfl, hb, h1, hx⟩ := HR.out.idx y hyn
      have HS : Hid (cF t m (mo + (d + 1)) = cF t m (mo + d) + if decide (x = m) = true then 1 else 0) := Lib.hid (by rw [← Nat.add_assoc, cF_succ, hit_at (x := x) (by rw [HL.out, hy]; exact hx)])
      clear hx hy hz hcb
      cases q : (x == m)
      · have HS2 : Hid (cF t m (mo + (d + 1)) + z = cF t m mo + tk) := Lib.hid (by have h1 := HS.out; have h2 := HZ.out; simp at q; simp [q] at h1; rw [h1] <;> omega)
        go_wp2
        go_round
        case rel => exact ⟨d + 1, z, by omega, by go_num, rfl, HS2.out⟩
        case measure => simp [intOf]; omega
      · have HS2 : Hid (cF t m (mo + (d + 1)) + (z - 1) = cF t m mo + tk) := Lib.hid (by have h1 := HS.out; have h2 := HZ.out; simp at q; simp [q] at h1; rw [h1] <;> omega)
        go_wp2
        go_round
        case rel => exact ⟨d + 1, z - 1, by omega, by go_num, by go_num, HS2.out⟩
        case measure => simp [intOf]; omega
    · have hdE : E = mo + d := by
        have h1 := (HLE.out (mo + d)).2 (by omega)
        omega
      have HK : Hid ((d : Int) = (E : Int) - mo) := Lib.hid (by omega)
      clear hdE hz hcb
      go_wp2
      go_ret
      exact ⟨ret_int HK.out, rfl⟩
end Go.Proofs.Ytgldgomjlcojaaa
