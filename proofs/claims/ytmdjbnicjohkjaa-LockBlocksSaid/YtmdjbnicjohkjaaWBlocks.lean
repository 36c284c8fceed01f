/- The walk of LockBlocks: it returns true. The conditions: the tasks read as named; their lists are no longer than memory bears. -/
import Derived.Test.YtmdjbnicjohkjaaTkBlk
import Derived.Test.YtmdjbnicjohkjaaWCeils
namespace Go.Proofs.Ytmdjbnicjohkjaa
open Go.RowKit
set_option linter.unusedSimpArgs false
set_option linter.unusedVariables false
theorem eqTwo (a b x y : Int) (w : World) : (Op.equalIn 10000 73 (.agg #[.int .i64 a, .int .i64 b]) (.agg #[.int .i64 x, .int .i64 y])).run Try.prog w = .ok (a == x && b == y) w :=
  equalIn_pair 73 3 9998 Try.underlying73 Try.underlying3 Try.sizeOf3 Try.isAgg3 a b x y w
theorem Blocking_is {a : Option Addr} {n c : Nat} {L : List Ta} {t x e : Int} {w : World} (hL : RdL w a n L) (h : blkgR L t = (x, e)) :
    Calls Try.prog 44 #[.slice a n c, .int .i64 t] w fun en w' => en = rII x e ∧ Below w.heap.size w w' := by
  have := Blocking_any a n c L t w hL
  rw [h] at this; exact this
theorem rBlocking_is {a : Option Addr} {n c : Nat} {L : List Ta} {t x e : Int} {w : World} (hL : RdL w a n L) (h : blkgR L t = (x, e)) :
    Calls Try.prog 45 #[.slice a n c, .int .i64 t] w fun en w' => en = rII x e ∧ Below w.heap.size w w' := by
  have := rBlocking_any a n c L t w hL
  rw [h] at this; exact this
theorem Blockers_is {a : Option Addr} {n c : Nat} {L : List Ta} {t x : Int} {bs : List P2} {w : World} (hL : RdL w a n L) (h : blksR L t = (bs, x)) :
    Calls Try.prog 46 #[.slice a n c, .int .i64 t] w (OutBE w.heap.size w bs x) := by
  have := Blockers_any a n c L t w hL
  rw [h] at this; exact this
/-- the task with the last rank has no blocker -/
theorem last_none {L : List Ta} {q : Int} (h : (rankL L)[L.length - 1]? = some q) : blockN L q = 0 := by
  have hc := rank_cnt h
  have hn : blockL L q = [] := by
    rcases List.eq_nil_or_concat (blockL L q) with e | ⟨l, b, e⟩
    · exact e
    · rw [List.concat_eq_append] at e
      have hb := blockL_mem (L := L) (t := q) (b := b) (by rw [e]; simp)
      have hq := rank_mem.1 (List.mem_of_getElem? h)
      have h1 := (cnt_ahead (L := L) hq.1 hq.2 hb.j0 hb.j1).2 hb.ah
      have h2 := cnt_lt (L := L) hb.j0 hb.j1
      omega
  unfold blockN; rw [hn]; rfl
theorem blk_cases (L : List Ta) (t : Int) : (∃ q : Nat, t = q ∧ q < L.length ∧ Right L ∧ blkgR L t = (blockN L q, 0) ∧ blksR L t = (blockL L q, 0) ∧ ranksR L = (rankL L, 0)) ∨ (blkgR L t = (0, 1) ∧ blksR L t = ([], 1)) := by
  cases h : isTk L t
  · exact .inr ⟨by rw [blkgR, h]; rfl, by rw [blksR, h]; rfl⟩
  · obtain ⟨hr, h0, h1⟩ := isTk_iff.1 h
    obtain ⟨q, rfl⟩ := Int.eq_ofNat_of_zero_le h0
    exact .inl ⟨q, rfl, by omega, right_of hr, by rw [blkgR, h]; rfl, by rw [blksR, h]; rfl, by rw [ranksR, hr]; rfl⟩
set_option maxRecDepth 100000 in
set_option maxHeartbeats 8000000 in
theorem lockBlocks_walk {w : World} (a : Option Addr) (n c : Nat) (L : List Ta) (hL : RdL w a n L) (hT : ∀ t ∈ L, t.pcs.length ≤ 281474976710656) (hN : NilOk a n c) (t : Int) (_ : -9223372036854775808 ≤ t ∧ t ≤ 9223372036854775807) :
    Calls Try.prog 11 #[.slice a n c, .int .i64 t] w fun e w' => e = .returned (.bool true) ∧ Below w.heap.size w w' := by
  have HM := Lib.hid (many_any a n c L w hL hT)
  have HR := Lib.hid hL
  have hEq := eqTwo
  cases hm : manyL n L
  · rw [hm] at HM
    obtain ⟨hn, hP⟩ := manyL_no hm
    rcases blk_cases L t with ⟨q, rfl, hqn, hv, hg, hs, hr⟩ | ⟨hg, hs⟩
    · have hll := hL.length
      rw [hll] at hqn
      obtain ⟨B, hB⟩ : ∃ B, blockL L q = B := ⟨_, rfl⟩
      have HI : Hid (∀ b ∈ B, IsBlk L q b) := Lib.hid (fun b hb => blockL_mem (by rw [hB]; exact hb))
      have hBl : B.length ≤ 40 := by rw [← hB]; exact blockL_len hv q
      obtain ⟨R, hR⟩ : ∃ R, blockN L q = R := ⟨_, rfl⟩
      have HA : Hid (maxB L 0 (B.drop 0) = R) := Lib.hid (by rw [← hR, ← hB]; rfl)
      obtain ⟨rk, hrk⟩ : ∃ R, rankL L = R := ⟨_, rfl⟩
      have HRL : Hid (rk.length = n) := Lib.hid (by rw [← hrk, rank_len, hll])
      have HLT : Hid (∀ x, rk[n - 1]? = some x → x = q → R = 0) := Lib.hid (fun x hx e => by rw [← hR, ← e]; exact last_none (by rw [hrk, hll]; exact hx))
      have HRK : Hid (ranksR L = (rk, 0)) := Lib.hid (by rw [hr, hrk])
      rw [hR] at hg
      rw [hB] at hs
      have HG := Lib.hid hg
      have HS := Lib.hid hs
      clear hL hT hm hP hg hs hr hv hll hB hR hrk
      go_enter Try.func11, Try.ntmps11
      go_wp2_with (first
      | (go_at_call 34; refine (HM.out).mono ?_; rintro e w1 ⟨rfl, rfl⟩)
      | (go_at_call 44; (with_reducible refine (Blocking_is HR.out HG.out).mono ?_); rintro e w1 ⟨rfl, hb1⟩; have B1 := Lib.hid hb1; clear hb1)
      | (go_at_call 45; (with_reducible refine (rBlocking_is (HR.out.ext (by repeat (first | (with_reducible exact Below.refl _ _) | (refine Below.then ?_ (Hid.out (by with_reducible assumption)))))) HG.out).mono ?_); rintro e w2 ⟨rfl, hb2⟩; have B2 := Lib.hid hb2; clear hb2)
      | (go_at_call 46; (with_reducible refine (Blockers_is (HR.out.ext (by repeat (first | (with_reducible exact Below.refl _ _) | (refine Below.then ?_ (Hid.out (by with_reducible assumption)))))) HS.out).mono ?_); rintro e w3 ⟨a3, n3, c3, rfl, ho3, hb3⟩; have R3 := Lib.hid (ownsP_rd ho3); have B3 := Lib.hid hb3; clear ho3 hb3)
      | (go_at_call 47; (with_reducible refine (rBlockers_is (HR.out.ext (by repeat (first | (with_reducible exact Below.refl _ _) | (refine Below.then ?_ (Hid.out (by with_reducible assumption)))))) HS.out).mono ?_); rintro e w4 ⟨a4, n4, c4, rfl, ho4, hb4⟩; have R4 := Lib.hid (ownsP_rd ho4); have B4 := Lib.hid hb4; have hn4 : n3 = n4 := (by rw [← (ownsP_rd ho4).length, ← R3.out.length]); clear ho4 hb4; subst hn4)
      | (go_at_call 14; (with_reducible refine (sane_any _).mono ?_); rintro e w9 ⟨rfl, hb9⟩; have B9 := Lib.hid hb9; clear hb9))
      have hn3 : B.length = n3 := R3.out.length
      have hn40 : n3 ≤ 40 := by omega
      go_loopw [13, 14] (fun v i wr => ∃ (k : Nat) (m : Int), k ≤ n3 ∧ v = .int .i64 m ∧ i = .int .i64 k ∧ maxB L m (B.drop k) = R ∧ Below w4.heap.size w4 wr) (fun _ i _ => n3 - (intOf i).toNat)
      case atStart => exact ⟨0, 0, Nat.zero_le _, rfl, rfl, HA.out, Below.refl _ _⟩
      case round =>
        clear HA
        obtain ⟨k, m, hk, rfl, rfl, he, hB⟩ := hrel
        have HE := Lib.hid he; have HB := Lib.hid hB
        clear he hB
        by_cases hlt : k < n3
        · obtain ⟨b, g1, off1, rfl, hg1, f1, f2, hbg, HD⟩ := (R3.out.ext (show Below w3.heap.size w3 wr from (by repeat (first | (with_reducible exact Below.refl _ _) | (refine Below.then ?_ (Hid.out (by with_reducible assumption))))))).piece k hlt
          obtain ⟨b', g2, off2, rfl, hg2, f3, f4, hbg', _⟩ := (R4.out.ext (show Below w4.heap.size w4 wr from (by repeat (first | (with_reducible exact Below.refl _ _) | (refine Below.then ?_ (Hid.out (by with_reducible assumption))))))).piece k hlt
          obtain rfl : b = b' := by rw [hbg] at hbg'; simpa using hbg'
          obtain ⟨j, i, g, off, pb, poff, pn, pc, p, rfl, hj, hi, rfl, hg, hpb, d5, d1, d2, ht, hps⟩ := (HR.out.ext (show Below w.heap.size w wr from (by repeat (first | (with_reducible exact Below.refl _ _) | (refine Below.then ?_ (Hid.out (by with_reducible assumption))))))).blk (HI.out b (List.mem_of_getElem? hbg))
          have hE := HE.out
          rw [HD.out, maxB_cons, ht] at hE
          obtain ⟨x, hx⟩ : ∃ x, p.1 = x := ⟨_, rfl⟩
          rw [hx] at hE d1
          simp only [] at f1 f2 f3 f4
          have HE2 := Lib.hid hE
          clear hbg hbg' HD ht hE hx
          go_wp2_with (first
            | (((refine wp_region_later_lit (by kernel_rfl) (by kernel_rfl) ?_; (repeat (go_big_quiet_step (fail))); refine wpQuiet_nil ?_; intro w7 hb7)); have y1 := (hb7.cell (p := ⟨g1, off1 + k * 2, none⟩) hg1).trans f1; have y2 := (hb7.cell (p := ⟨g1, off1 + k * 2 + 1, none⟩) hg1).trans f2; have y5 := (hb7.cell (p := ⟨g, off + j * 6 + 5, none⟩) hg).trans d5; have y6 := (hb7.cell (p := ⟨pb, poff + i * 2, none⟩) hpb).trans d1; have z1 := Nat.lt_of_lt_of_le hg1 hb7.size; have z2 := Nat.lt_of_lt_of_le hg hb7.size; have z3 := Nat.lt_of_lt_of_le hpb hb7.size; have B7 := Lib.hid hb7; clear hb7)
            | (refine wp_region_later_lit (by kernel_rfl) (by kernel_rfl) ?_; (repeat (go_big_quiet_step (fail))); refine wpQuiet_nil ?_; intro w8 hb8))
          go_roundw
          case rel => exact ⟨k + 1, max m x, by omega, rfl, by go_num, HE2.out, Below.then (Below.then HB.out B7.out) hb8⟩
          case measure => simp [intOf]; omega
        · have hE := HE.out
          rw [List.drop_of_length_le (by omega)] at hE
          obtain rfl : m = R := hE
          have hmR : (m != m) = false := by simp
          have hm3 : n3 ≤ 40 := hn40
          have hn1 : 1 ≤ n := by omega
          obtain ⟨x, hx⟩ : ∃ x, rk[n - 1]? = some x := ⟨_, List.getElem?_eq_getElem (by rw [HRL.out]; omega)⟩
          have hlast := HLT.out x hx
          have HX := Lib.hid hx
          clear hx
          by_cases hxq : x = q
          · have hm0 := hlast hxq
            subst hm0 hxq
            have hq' : ((q : Int) != (q : Int)) = false := by simp
            clear hlast
            go_wp2_with (first
              | (go_at_call 40; (with_reducible refine (Ranks_is (HR.out.ext (by repeat (first | (with_reducible exact Below.refl _ _) | (refine Below.then ?_ (Hid.out (by with_reducible assumption)))))) HRK.out).mono ?_); rintro e w5 ⟨a5, n5, c5, rfl, ho5, hb5⟩; have B5 := Lib.hid hb5; have hn5 : n5 = n := (by rw [← HRL.out, ← (ownsI_rd ho5).length]); have hs5 := (ownsI_rd ho5).small; obtain ⟨x5, bl, ol, rfl, hbl, hcx, hx5⟩ := (ownsI_rd ho5).idx (n - 1) (by omega); rw [HX.out] at hx5; obtain rfl : (q : Int) = x5 := (by simpa using hx5); subst hn5; clear ho5 hb5 hx5; have hi1 : (n5 : Int) - 1 = ((n5 - 1 : Nat) : Int) := (by omega))
              | (go_at_call 14; (with_reducible refine (sane_any _).mono ?_); rintro e w9 ⟨rfl, hb9⟩; have B9 := Lib.hid hb9; clear hb9))
            go_ret
            exact ⟨rfl, (by repeat (first | (with_reducible exact Below.refl _ _) | (refine Below.then ?_ (Hid.out (by with_reducible assumption)))))⟩
          · have hxq' : (x != (q : Int)) = true := by simpa using hxq
            go_wp2_with (first
              | (go_at_call 40; (with_reducible refine (Ranks_is (HR.out.ext (by repeat (first | (with_reducible exact Below.refl _ _) | (refine Below.then ?_ (Hid.out (by with_reducible assumption)))))) HRK.out).mono ?_); rintro e w5 ⟨a5, n5, c5, rfl, ho5, hb5⟩; have B5 := Lib.hid hb5; have hn5 : n5 = n := (by rw [← HRL.out, ← (ownsI_rd ho5).length]); have hs5 := (ownsI_rd ho5).small; obtain ⟨x5, bl, ol, rfl, hbl, hcx, hx5⟩ := (ownsI_rd ho5).idx (n - 1) (by omega); rw [HX.out] at hx5; obtain rfl : x = x5 := (by simpa using hx5); subst hn5; clear ho5 hb5 hx5; have hi1 : (n5 : Int) - 1 = ((n5 - 1 : Nat) : Int) := (by omega))
              | (go_at_call 14; (with_reducible refine (sane_any _).mono ?_); rintro e w9 ⟨rfl, hb9⟩; have B9 := Lib.hid hb9; clear hb9))
            go_ret
            exact ⟨rfl, (by repeat (first | (with_reducible exact Below.refl _ _) | (refine Below.then ?_ (Hid.out (by with_reducible assumption)))))⟩
    · have HG := Lib.hid hg
      have HS := Lib.hid hs
      obtain ⟨rk, re, hr⟩ : ∃ x e, ranksR L = (x, e) := ⟨_, _, rfl⟩
      have HRK := Lib.hid hr
      clear hL hT hm hP hg hs hr
      go_enter Try.func11, Try.ntmps11
      go_wp2_with (first
      | (go_at_call 34; refine (HM.out).mono ?_; rintro e w1 ⟨rfl, rfl⟩)
      | (go_at_call 44; (with_reducible refine (Blocking_is HR.out HG.out).mono ?_); rintro e w1 ⟨rfl, hb1⟩; have B1 := Lib.hid hb1; clear hb1)
      | (go_at_call 45; (with_reducible refine (rBlocking_is (HR.out.ext (by repeat (first | (with_reducible exact Below.refl _ _) | (refine Below.then ?_ (Hid.out (by with_reducible assumption)))))) HG.out).mono ?_); rintro e w2 ⟨rfl, hb2⟩; have B2 := Lib.hid hb2; clear hb2)
      | (go_at_call 46; (with_reducible refine (Blockers_is (HR.out.ext (by repeat (first | (with_reducible exact Below.refl _ _) | (refine Below.then ?_ (Hid.out (by with_reducible assumption)))))) HS.out).mono ?_); rintro e w3 ⟨a3, n3, c3, rfl, ho3, hb3⟩; have R3 := Lib.hid (ownsP_rd ho3); have B3 := Lib.hid hb3; clear ho3 hb3)
      | (go_at_call 47; (with_reducible refine (rBlockers_is (HR.out.ext (by repeat (first | (with_reducible exact Below.refl _ _) | (refine Below.then ?_ (Hid.out (by with_reducible assumption)))))) HS.out).mono ?_); rintro e w4 ⟨a4, n4, c4, rfl, ho4, hb4⟩; have R4 := Lib.hid (ownsP_rd ho4); have B4 := Lib.hid hb4; have hn4 : n3 = n4 := (by rw [← (ownsP_rd ho4).length, ← R3.out.length]); clear ho4 hb4; subst hn4)
      | (go_at_call 14; (with_reducible refine (sane_any _).mono ?_); rintro e w9 ⟨rfl, hb9⟩; have B9 := Lib.hid hb9; clear hb9))
      obtain rfl : n3 = 0 := by have := R3.out.length; simpa using this.symm
      go_loopw [13, 14] (fun v i wr => v = .int .i64 0 ∧ i = .int .i64 0 ∧ w4 = wr) (fun _ i _ => 0)
      case atStart => exact ⟨rfl, rfl, rfl⟩
      case round =>
        obtain ⟨rfl, rfl, rfl⟩ := hrel
        go_wp2_with (first
          | (go_at_call 40; (with_reducible refine (Ranks_is (HR.out.ext (by repeat (first | (with_reducible exact Below.refl _ _) | (refine Below.then ?_ (Hid.out (by with_reducible assumption)))))) HRK.out).mono ?_); rintro e w5 ⟨a5, n5, c5, rfl, ho5, hb5⟩; have B5 := Lib.hid hb5; clear ho5 hb5)
          | (go_at_call 14; (with_reducible refine (sane_any _).mono ?_); rintro e w9 ⟨rfl, hb9⟩; have B9 := Lib.hid hb9; clear hb9))
        go_ret
        exact ⟨rfl, (by repeat (first | (with_reducible exact Below.refl _ _) | (refine Below.then ?_ (Hid.out (by with_reducible assumption)))))⟩
  · rw [hm] at HM
    clear hL hT hm
    go_enter Try.func11, Try.ntmps11
    go_wp2_with (first
      | (go_at_call 34; refine (HM.out).mono ?_; rintro e w1 ⟨rfl, rfl⟩)
      | (go_at_call 14; (with_reducible refine (sane_any _).mono ?_); rintro e w9 ⟨rfl, hb9⟩; have B9 := Lib.hid hb9; clear hb9))
    go_ret
    exact ⟨rfl, (by repeat (first | (with_reducible exact Below.refl _ _) | (refine Below.then ?_ (Hid.out (by with_reducible assumption)))))⟩
end Go.Proofs.Ytmdjbnicjohkjaa
