/- The walk of BusApart: it returns true. The conditions: the slots and the requests read as named. -/
import Derived.Test.YtgldgomjlcojaaaSvApart
import Derived.Test.YtgldgomjlcojaaaIntsB
import Derived.Test.YtgldgomjlcojaaaBsSane
import Derived.Test.YtgldgomjlcojaaaPushM
namespace Go.Proofs.Ytgldgomjlcojaaa
open Go.RowKit
set_option linter.unusedSimpArgs false
set_option linter.unusedVariables false
theorem ERq : Elt Try.prog 47 35 3 24 := Elt.mk' (z := .agg #[.int .i64 0, .int .i64 0, .int .i64 0]) Try.underlying47 (by kernel_rfl) rfl (by decide)
theorem rq_flat (q : List Rq) (m : Int) (i : Nat) {mm o k : Int} (hg : rqAt q i = ⟨mm, o, k⟩) (hm : mm = m) : ((ownK q m (i + 1)).map (rqAt q)).flatMap encQ = ((ownK q m i).map (rqAt q)).flatMap encQ ++ [.int .i64 mm, .int .i64 o, .int .i64 k] := by
  rw [ownK_succ, hg, if_pos hm, List.map_append, List.flatMap_append]
  simp [hg, encQ]
theorem en_flat (T : List Int) (q : List Rq) (m : Int) (i : Nat) (hm : (rqAt q i).m = m) : ((ownK q m (i + 1)).map (fun y => (enN T q y : Int))) = ((ownK q m i).map (fun y => (enN T q y : Int))) ++ [(enN T q i : Int)] := by
  rw [ownK_succ, if_pos hm, List.map_append]; rfl
set_option maxRecDepth 100000 in
set_option maxHeartbeats 8000000 in
theorem busApart_walk {w : World} (a0 : Option Addr) (n0 c0 : Nat) (l : List P2) (hR : Rd w a0 n0 2 (l.map enc2)) (hN : n0 = 0 → (a0 = none ∧ c0 = 0) ∨ ∃ ad, a0 = some ad) (a : Option Addr) (n c : Nat) (q : List Rq) (hQ : Rd w a n 3 (q.map encQ)) (m : Int) (_ : -9223372036854775808 ≤ m ∧ m ≤ 9223372036854775807) :
    Calls Try.prog 8 #[.slice a0 n0 c0, .slice a n c, .int .i64 m] w fun e w' => e = .returned (.bool true) ∧ Below w.heap.size w w' := by
  have HR := Lib.hid hR; have HQ := Lib.hid hQ
  have hs := hR.small
  have hs2 := hQ.small
  have hql := hQ.length
  clear hR hN hQ
  by_cases h60 : n0 ≤ 60 ∧ n ≤ 200
  · have HF : Hid (∀ w', Calls Try.prog 11 #[.slice a0 n0 c0, .slice a n c] w' fun e w'' => e = .returned (.bool true) ∧ w' = w'') := Lib.hid (fun w' => few_yes h60.1 h60.2)
    obtain ⟨⟨B1, XS, E⟩, hE⟩ : ∃ R, srvR l q = R := ⟨_, rfl⟩
    have HE := Lib.hid hE
    have hn200 := h60.2
    by_cases h0 : E = 0
    · subst h0
      have h0' : (srvR l q).2.2 = 0 := by rw [hE]
      have h4 := (srv_zero h0').2.2.2.1
      rw [hE] at h4
      simp only [Prod.mk.injEq] at h4
      obtain ⟨_, hX, _⟩ := h4
      obtain ⟨B2, hOwn⟩ := srv_own (m := m) h0'
      have HOWN := Lib.hid hOwn
      have HXS : Hid (∀ i : Nat, i < n → XS[i]? = some (enN (tableS l) q i : Int)) := Lib.hid (fun i hi => by rw [hX]; exact endL_get (by rw [hql]; exact hi))
      have hxl : XS.length = n := by rw [hX]; simp [endL, idxs_len, hql]
      have HXL := Lib.hid hxl
      have HQL := Lib.hid hql
      obtain ⟨T, hT⟩ : ∃ T, tableS l = T := ⟨_, rfl⟩
      rw [hT] at HOWN HXS
      have e1 := E1
      have e3 := ERq
      clear hE h0' hX hOwn hxl hT
      go_enter Try.func8, Try.ntmps8
      go_wp2_with (first
        | (go_at_call 11; (with_reducible refine (HF.out _).mono ?_); rintro e w2 ⟨rfl, rfl⟩)
        | (go_at_call 36; (with_reducible refine (Serve_is HR.out HQ.out HE.out).mono ?_); rintro e w3 ⟨a3, n3, c3, rfl, h3, hb3⟩; have W3 := Lib.hid hb3; have R3 := Lib.hid (ownsI_rd h3); clear h3 hb3))
      have hn3 : n3 = n := by rw [← R3.out.length]; exact HXL.out
      subst hn3
      clear HF
      go_loopw [9, 10, 11] (fun u v i wr => ∃ (k j : Nat) (a5 a6 : Option Addr) (c5 c6 : Nat), k ≤ n3 ∧ j ≤ k ∧ u = .slice a5 j c5 ∧ v = .slice a6 j c6 ∧ i = .int .i64 k ∧ wr.ownsRow w3.heap.size 35 3 (.slice a5 j c5) j (((ownK q m k).map (rqAt q)).flatMap encQ) ∧ wr.ownsRow w3.heap.size 3 1 (.slice a6 j c6) j (((ownK q m k).map (fun y => (enN T q y : Int))).flatMap enc1) ∧ Below w3.heap.size w3 wr) (fun _ _ i _ => n3 - (intOf i).toNat)
      case atStart => exact ⟨0, 0, none, none, 0, 0, Nat.zero_le _, Nat.le_refl _, rfl, rfl, rfl, World.ownsRow_nil _ _ _ _, World.ownsRow_nil _ _ _ _, Below.refl _ _⟩
      case round =>
        obtain ⟨k, j, a5, a6, c5, c6, hk, hj, rfl, rfl, rfl, hO5, hO6, hB⟩ := hrel
        have HO5 := Lib.hid hO5; have HO6 := Lib.hid hO6; have HB := Lib.hid hB
        have hz := hB.size
        clear hO5 hO6 hB
        by_cases hlt : k < n3
        · obtain ⟨⟨mm, o, t⟩, b, off, rfl, hb, hg, d1, d2, d3, _⟩ := (HQ.out.ext (Below.then W3.out HB.out)).rq k hlt
          simp only [] at d1 d2 d3
          have hr := rqAt_of hg
          obtain ⟨x, b3, o3, rfl, hb3, hc3', hx⟩ := R3.out.idx k hlt
          have hc3 := (HB.out.cell (p := ⟨b3, o3 + k, none⟩) hb3).trans hc3'
          clear hc3'
          obtain rfl : x = (enN T q k : Int) := by rw [HXS.out k hlt] at hx; simpa using hx.symm
          by_cases hm : mm = m
          · have hm' : (mm == m) = true := by simpa using hm
            have HF5 := Lib.hid (rq_flat q m k hr hm)
            have HF6 := Lib.hid (en_flat T q m k (by rw [hr]; exact hm))
            obtain ⟨EN, hEN⟩ : ∃ B, enN T q (k : Int) = B := ⟨_, rfl⟩
            rw [hEN] at hc3 HF6
            subst hm
            clear hg hr hx hEN
            go_wp2_with (first
              | (at_builtin; refine wpList_pushM (N := wr.heap.size) (v := .slice a5 j c5) (by simp) rfl _ _ _ rfl e3 rfl HO5.out rfl rfl (by intro u hu; simp at hu; rcases hu with rfl | rfl | rfl <;> rfl) (by omega) (by decide) hz ?_
                 intro a7 c7 w7 hown7 hg7
                 have HO7 := Lib.hid hown7
                 have hOw := HO5.out.alloc (.cells #[.int .i64 mm, .int .i64 o, .int .i64 t] 35)
                 have HK7 := Lib.hid (owns_kept (HO6.out.alloc _) hOw (by decide) hg7)
                 have hb7 : Below w3.heap.size wr w7 := ((Below.refl w3.heap.size wr).alloc hz _).trans (grown_below hOw hg7 (by rw [World.size_alloc]; omega))
                 have HB7 := Lib.hid hb7
                 have g3 := (hb7.cell (p := ⟨b3, o3 + k, none⟩) hb3).trans hc3
                 have hz7 := hb7.size
                 have hz7' := Nat.le_trans hz hz7
                 clear hown7 hg7 hOw hb7)
              | (at_builtin; refine wpList_pushM (N := w7.heap.size) (v := .slice a6 j c6) (by simp) rfl _ _ _ rfl e1 rfl HK7.out rfl rfl (by intro u hu; simp at hu; rcases hu with rfl; rfl) (by omega) (by decide) hz7' ?_
                 intro a8 c8 w8 hown8 hg8
                 have HO8 := Lib.hid hown8
                 have hOw := HK7.out.alloc (.cells #[.int .i64 (EN : Int)] 3)
                 have HK8 := Lib.hid (owns_kept (HO7.out.alloc _) hOw (by decide) hg8)
                 have HB8 : Hid (Below w3.heap.size w7 w8) := Lib.hid (((Below.refl w3.heap.size w7).alloc hz7' _).trans (grown_below hOw hg8 (by rw [World.size_alloc]; omega)))
                 clear hown8 hg8 hOw))
            go_roundw
            case rel => exact ⟨k + 1, j + 1, a7, a8, c7, c8, hlt, by omega, rfl, rfl, by go_num, by rw [HF5.out]; exact HK8.out, by rw [HF6.out]; exact ownsI_snoc HO8.out, (HB.out.trans HB7.out).trans HB8.out⟩
            case measure => simp [intOf]; omega
          · have hm' : (mm == m) = false := by simpa using hm
            have hsame : ownK q m (k + 1) = ownK q m k := by rw [ownK_succ, hr, if_neg hm, List.append_nil]
            have HSM := Lib.hid hsame
            clear hg hr hx hsame
            go_wp2
            go_roundw
            case rel => exact ⟨k + 1, j, a5, a6, c5, c6, hlt, by omega, rfl, rfl, by go_num, by rw [HSM.out]; exact HO5.out, by rw [HSM.out]; exact HO6.out, HB.out⟩
            case measure => simp [intOf]; omega
        · obtain rfl : k = n3 := by omega
          have HQO : Hid (Rd wr a5 j 3 ((ownQ q m).map encQ)) := Lib.hid (by unfold ownQ; rw [HQL.out]; exact Rd.of_owns encQ_len (by decide) HO5.out)
          have HEO : Hid (Rd wr a6 j 1 (((ownK q m k).map (fun y => (enN T q y : Int))).map enc1)) := Lib.hid (ownsI_rd HO6.out)
          have HW9 := Lib.hid (Below.then W3.out HB.out)
          have HOWN2 : Hid (srvR l (ownQ q m) = (B2, (ownK q m k).map (fun y => (enN T q y : Int)), 0)) := Lib.hid (by have := HOWN.out; rw [HQL.out] at this; exact this)
          clear HO5 HO6 HOWN
          go_wp2_with (first
            | (go_at_call 36; (with_reducible refine (Serve_is (HR.out.ext HW9.out) HQO.out HOWN2.out).mono ?_); rintro e w8 ⟨a8, n8, c8, rfl, h8, hb8⟩; have W8 := Lib.hid hb8; have R8 := Lib.hid (ownsI_rd h8); have HX8 := Lib.hid (Below.then HW9.out hb8); clear h8 hb8)
            | (go_at_call 37; (with_reducible refine (ints_eq _ _ _ _ _ _ _ _ R8.out (HEO.out.ext W8.out)).mono ?_); rintro e w9 ⟨rfl, hb9⟩; have W9 := Lib.hid (Below.then HX8.out hb9); clear hb9)
            | (go_at_call 13; (with_reducible refine (sane_any _).mono ?_); rintro e w11 ⟨rfl, hb11⟩))
          go_ret
          exact ⟨rfl, Below.then W9.out hb11⟩
    · have hxs := srv_none hE h0
      subst hxs
      have hz : (E != 0) = true := by simpa using h0
      clear hE h0
      go_enter Try.func8, Try.ntmps8
      go_wp2_with (first
        | (go_at_call 11; (with_reducible refine (HF.out _).mono ?_); rintro e w2 ⟨rfl, rfl⟩)
        | (go_at_call 36; (with_reducible refine (Serve_is HR.out HQ.out HE.out).mono ?_); rintro e w3 ⟨a3, n3, c3, rfl, h3, hb3⟩; have hn3 := (ownsI_rd h3).length; simp only [List.length_nil] at hn3; subst hn3; have W3 := Lib.hid hb3; clear h3 hb3)
        | (go_at_call 13; (with_reducible refine (sane_any _).mono ?_); rintro e w11 ⟨rfl, hb11⟩))
      go_ret
      exact ⟨rfl, Below.then W3.out hb11⟩
  · have HF : Hid (∀ w', Calls Try.prog 11 #[.slice a0 n0 c0, .slice a n c] w' fun e w'' => e = .returned (.bool false) ∧ w' = w'') := Lib.hid (fun w' => few_no hs hs2 h60)
    go_enter Try.func8, Try.ntmps8
    go_wp2_with (first
      | (go_at_call 11; (with_reducible refine (HF.out _).mono ?_); rintro e w2 ⟨rfl, rfl⟩)
      | (go_at_call 13; refine (sane_any _).mono ?_; rintro e w1 ⟨rfl, hb1⟩; obtain ⟨hc1, hf1, hz1, hr1⟩ := bfacts hb1; (try simp only [World.size_alloc, World.size_setCell, World.size_drew, World.size_drewN] at hz1 hr1); (try have hw0 : w.heap.size < w1.heap.size := by omega); (try have hw1 : w.heap.size + 1 < w1.heap.size := by omega); (try have hw2 : w.heap.size + 1 + 1 < w1.heap.size := by omega)))
    go_ret
    exact ⟨rfl, by (repeat' (first | (with_reducible exact Below.refl _ _) | (with_reducible assumption) | (with_reducible refine Below.alloc ?_ ?_ _) | (with_reducible refine Below.drew ?_) | (with_reducible refine Below.draws ?_ _) | (with_reducible refine Below.setCell ?_ ?_ _) | (refine Below.then ?_ (by with_reducible assumption)) | go_size))⟩
end Go.Proofs.Ytgldgomjlcojaaa
