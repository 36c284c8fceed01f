/- The walk of BusUses: it returns true. The conditions: the slots and the requests read as named. -/
import Derived.Test.YtgldgomjlcojaaaSvUses
import Derived.Test.YtgldgomjlcojaaaSvApart
import Derived.Test.YtgldgomjlcojaaaBsSane
namespace Go.Proofs.Ytgldgomjlcojaaa
open Go.RowKit
set_option linter.unusedSimpArgs false
set_option linter.unusedVariables false
theorem useL_get {T : List Int} {q : List Rq} {t k : Nat} (h : k < q.length) : (useL T q t)[k]? = some (uF T q k t : Int) := by unfold useL; rw [List.getElem?_map, List.getElem?_range h]; rfl
theorem useL_zero (T : List Int) (q : List Rq) : useL T q 0 = List.replicate q.length 0 := by
  unfold useL; rw [List.eq_replicate_iff]; simp [uF]
/-- what is asked of two requests -/
theorem uses_two {T : List Int} {q : List Rq} (h : OkQ T q) {i k : Nat} (hi : i < q.length) (hk : k < q.length) (hm : (rqAt q k).m = (rqAt q i).m) (ha : aheadQ q i k = true) : enN T q i < enN T q k := by
  have mi : (i : Int) ∈ ordQ q := ordQ_mem.2 ⟨by omega, by omega⟩
  have mk : (k : Int) ∈ ordQ q := ordQ_mem.2 ⟨by omega, by omega⟩
  have h1 := en_le_bg h mi mk hm.symm ha
  have h2 := bg_lt_en h mk
  omega
set_option maxRecDepth 100000 in
set_option maxHeartbeats 8000000 in
theorem busUses_walk {w : World} (a0 : Option Addr) (n0 c0 : Nat) (l : List P2) (hR : Rd w a0 n0 2 (l.map enc2)) (hN : n0 = 0 → (a0 = none ∧ c0 = 0) ∨ ∃ ad, a0 = some ad) (a : Option Addr) (n c : Nat) (q : List Rq) (hQ : Rd w a n 3 (q.map encQ)) :
    Calls Try.prog 10 #[.slice a0 n0 c0, .slice a n c] w fun e w' => e = .returned (.bool true) ∧ Below w.heap.size w w' := by
  have HR := Lib.hid hR; have HQ := Lib.hid hQ
  have hs := hR.small
  have hs2 := hQ.small
  have hql := hQ.length
  clear hR hN hQ
  by_cases h60 : n0 ≤ 60 ∧ n ≤ 200
  · have HF : Hid (∀ w', Calls Try.prog 11 #[.slice a0 n0 c0, .slice a n c] w' fun e w'' => e = .returned (.bool true) ∧ w' = w'') := Lib.hid (fun w' => few_yes h60.1 h60.2)
    obtain ⟨⟨B1, XS, E⟩, hE⟩ : ∃ R, srvR l q = R := ⟨_, rfl⟩
    have HE := Lib.hid hE
    have hn200 := h60.2
    by_cases h0 : E = 0
    · subst h0
      have h0' : (srvR l q).2.2 = 0 := by rw [hE]
      obtain ⟨hv, hk, h40, hSR, hOK⟩ := srv_zero h0'
      have h4 := hSR
      rw [hE] at h4
      simp only [Prod.mk.injEq] at h4
      obtain ⟨_, hX, _⟩ := h4
      have hxl : XS.length = n := by rw [hX]; simp [endL, idxs_len, hql]
      have HXL := Lib.hid hxl
      have HQL := Lib.hid hql
      obtain ⟨T, hT⟩ : ∃ T, tableS l = T := ⟨_, rfl⟩
      have HXS : Hid (∀ i : Nat, i < n → XS[i]? = some (enN T q i : Int)) := Lib.hid (fun i hi => by rw [hX, hT]; exact endL_get (by rw [hql]; exact hi))
      have HBU : Hid (∀ t : Nat, t ≤ 1000000 → busyR l q (t : Int) = (busyF T q t q.length 0, 0)) := Lib.hid (fun t ht => by unfold busyR; rw [inB_iff.2 ⟨by omega, by omega⟩, if_pos rfl, h0', if_pos rfl, Int.toNat_natCast, hT])
      have HOW : Hid (∀ (t : Nat) (m : Int), t ≤ 1000000 → hitB T m t = true → ownR l (t : Int) = (m, 0)) := Lib.hid (fun t m ht hh => by
        unfold ownR; rw [hv, inB_iff.2 ⟨by omega, by omega⟩, if_pos (show (true && true) = true from rfl), Int.toNat_natCast, hT]
        unfold hitB at hh
        simp only [decide_eq_true_eq] at hh
        rw [hh]; rfl)
      rw [hT] at hOK
      have HOK := Lib.hid hOK
      clear hE h0' hX hSR hxl hT hv hk hOK
      go_enter Try.func10, Try.ntmps10
      go_wp2_with (first
        | (go_at_call 11; (with_reducible refine (HF.out _).mono ?_); rintro e w2 ⟨rfl, rfl⟩)
        | (go_at_call 36; (with_reducible refine (Serve_is HR.out HQ.out HE.out).mono ?_); rintro e w3 ⟨a3, n3, c3, rfl, h3, hb3⟩; have hn3 := (ownsI_rd h3).length; rw [HXL.out] at hn3; subst hn3; have W3 := Lib.hid hb3; have R3 := Lib.hid (ownsI_rd h3); clear h3 hb3))
      clear HF
      go_loopw [7, 8] (fun v i wr => ∃ k : Nat, k ≤ n ∧ v = .int .i64 (lsF T q k : Nat) ∧ i = .int .i64 k ∧ Below w3.heap.size w3 wr) (fun _ i _ => n - (intOf i).toNat)
      case atStart => exact ⟨0, Nat.zero_le _, rfl, rfl, Below.refl _ _⟩
      case round =>
        obtain ⟨i, hi, rfl, rfl, hB⟩ := hrel
        have HB := Lib.hid hB
        clear hB
        by_cases hlt : i < n
        · obtain ⟨⟨mi, oi, ki⟩, b, off, rfl, hb, hg, d1, d2, d3, _⟩ := (HQ.out.ext (Below.then W3.out HB.out)).rq i hlt
          simp only [] at d1 d2 d3
          have hri := rqAt_of hg
          obtain ⟨x, b3, o3, rfl, hb3, hc3, hx⟩ := (R3.out.ext HB.out).idx i hlt
          obtain rfl : x = (enN T q i : Int) := by rw [HXS.out i hlt] at hx; simpa using hx.symm
          obtain ⟨EN, hEN⟩ : ∃ B, enN T q (i : Int) = B := ⟨_, rfl⟩
          rw [hEN] at hc3
          obtain ⟨LS, hLS⟩ : ∃ B, lsF T q i = B := ⟨_, rfl⟩
          rw [hLS]
          have hmx : max (LS : Int) (EN : Int) = ((lsF T q (i + 1) : Nat) : Int) := by rw [lsF, hLS, hEN]; omega
          have HMX := Lib.hid hmx; have HRI := Lib.hid hri; have HENI := Lib.hid hEN
          clear hg hri hx hEN hLS hmx
          go_wp2
          rw [HMX.out]
          go_loopw [9] (fun j wx => ∃ k : Nat, k ≤ n ∧ j = .int .i64 k ∧ Below wr.heap.size wr wx) (fun j _ => n - (intOf j).toNat)
          case atStart => exact ⟨0, Nat.zero_le _, rfl, Below.refl _ _⟩
          case round =>
            obtain ⟨k, hk, rfl, hB2⟩ := hrel
            have HB2 := Lib.hid hB2
            clear hB2
            by_cases hlk : k < n
            · obtain ⟨⟨mk, ok, kk⟩, b', off', e', hb', hg', f1, f2, _, _⟩ := ((HQ.out.ext (Below.then W3.out HB.out)).ext HB2.out).rq k hlk
              simp at e'
              obtain ⟨rfl, rfl⟩ := e'
              simp only [] at f1 f2
              have hrk := rqAt_of hg'
              obtain ⟨x, b4, o4, e4, hb4, hc4, hx⟩ := ((R3.out.ext HB.out).ext HB2.out).idx k hlk
              simp at e4
              obtain ⟨rfl, rfl⟩ := e4
              obtain rfl : x = (enN T q k : Int) := by rw [HXS.out k hlk] at hx; simpa using hx.symm
              have i1 := (HB2.out.cell (p := ⟨b, off + i * 3, none⟩) hb).trans d1
              have i2 := (HB2.out.cell (p := ⟨b, off + i * 3 + 1, none⟩) hb).trans d2
              have i3 := (HB2.out.cell (p := ⟨b3, o3 + i, none⟩) hb3).trans hc3
              have htwo : mk = mi → aheadQ q i k = true → EN < enN T q k := fun h1 h2 => by rw [← HENI.out]; exact uses_two HOK.out.ok (by rw [HQL.out]; exact hlt) (by rw [HQL.out]; exact hlk) (by rw [hrk, HRI.out]; exact h1) h2
              have hah : aheadQ q i k = true ↔ oi < ok ∨ (oi = ok ∧ (i : Int) < (k : Int)) := by rw [aheadQ_iff, hrk, HRI.out]
              obtain ⟨EK, hEK⟩ : ∃ B, enN T q (k : Int) = B := ⟨_, rfl⟩
              rw [hEK] at hc4 htwo
              obtain ⟨A, hA⟩ : ∃ A, aheadQ q i k = A := ⟨_, rfl⟩
              rw [hA] at hah htwo
              have HTWO := Lib.hid htwo
              have HAH := Lib.hid hah
              clear hg' hrk hx htwo hah hEK hA
              go_wp2_with fail
              go_cut [10] (fun v wx => v = .bool A ∧ Below wr.heap.size wr wx)
              case first =>
                by_cases q1 : oi < ok
                · obtain rfl : A = true := HAH.out.2 (.inl q1)
                  have q1' : decide (oi < ok) = true := by simpa using q1
                  go_region
                  all_goals (go_wp2_with fail; go_meet; exact ⟨rfl, by (repeat' (first | (with_reducible exact Below.refl _ _) | (with_reducible assumption) | (with_reducible refine Below.alloc ?_ ?_ _) | (with_reducible refine Below.drew ?_) | (with_reducible refine Below.draws ?_ _) | (with_reducible refine Below.setCell ?_ ?_ _) | (refine Below.then ?_ (by with_reducible assumption)) | go_size))⟩)
                · have q1' : decide (oi < ok) = false := by simpa using q1
                  by_cases q2 : ok = oi
                  · subst q2
                    by_cases q3 : (i : Int) < (k : Int)
                    · obtain rfl : A = true := HAH.out.2 (.inr ⟨rfl, q3⟩)
                      have q3' : decide ((i : Int) < (k : Int)) = true := by simpa using q3
                      have q3'' : decide (i < k) = true := by simp; omega
                      go_region
                      all_goals (go_wp2_with fail; go_meet; exact ⟨rfl, by (repeat' (first | (with_reducible exact Below.refl _ _) | (with_reducible assumption) | (with_reducible refine Below.alloc ?_ ?_ _) | (with_reducible refine Below.drew ?_) | (with_reducible refine Below.draws ?_ _) | (with_reducible refine Below.setCell ?_ ?_ _) | (refine Below.then ?_ (by with_reducible assumption)) | go_size))⟩)
                    · obtain rfl : A = false := by
                        cases A
                        · rfl
                        · exact absurd (HAH.out.1 rfl) (by omega)
                      have q3' : decide ((i : Int) < (k : Int)) = false := by simpa using q3
                      have q3'' : decide (i < k) = false := by simp; omega
                      go_region
                      all_goals (go_wp2_with fail; go_meet; exact ⟨rfl, by (repeat' (first | (with_reducible exact Below.refl _ _) | (with_reducible assumption) | (with_reducible refine Below.alloc ?_ ?_ _) | (with_reducible refine Below.drew ?_) | (with_reducible refine Below.draws ?_ _) | (with_reducible refine Below.setCell ?_ ?_ _) | (refine Below.then ?_ (by with_reducible assumption)) | go_size))⟩)
                  · have q2' : (ok == oi) = false := by simpa using q2
                    obtain rfl : A = false := by
                      cases A
                      · rfl
                      · exact absurd (HAH.out.1 rfl) (by omega)
                    go_region
                    all_goals (go_wp2_with fail; go_meet; exact ⟨rfl, by (repeat' (first | (with_reducible exact Below.refl _ _) | (with_reducible assumption) | (with_reducible refine Below.alloc ?_ ?_ _) | (with_reducible refine Below.drew ?_) | (with_reducible refine Below.draws ?_ _) | (with_reducible refine Below.setCell ?_ ?_ _) | (refine Below.then ?_ (by with_reducible assumption)) | go_size))⟩)
              case rest =>
                obtain ⟨rfl, hcb⟩ := hcut
                have HCB := Lib.hid hcb
                have j1 := (hcb.cell (p := ⟨b, off + i * 3, none⟩) hb').trans i1
                have j2 := (hcb.cell (p := ⟨b, off + k * 3, none⟩) hb').trans f1
                have j3 := (hcb.cell (p := ⟨b3, o3 + i, none⟩) hb4).trans i3
                have j4 := (hcb.cell (p := ⟨b3, o3 + k, none⟩) hb4).trans hc4
                clear hcb i1 i2 i3 f1 f2 hc4
                have HB4 := Lib.hid (Below.then HB2.out HCB.out)
                go_wp2_with fail
                by_cases hm : mk = mi
                · subst hm
                  cases A
                  · go_region
                    all_goals
                      go_wp2_with fail
                      go_roundw
                      case rel => exact ⟨k + 1, hlk, by go_num, Below.then HB4.out (by (repeat' (first | (with_reducible exact Below.refl _ _) | (with_reducible assumption) | (with_reducible refine Below.alloc ?_ ?_ _) | (with_reducible refine Below.drew ?_) | (with_reducible refine Below.draws ?_ _) | (with_reducible refine Below.setCell ?_ ?_ _) | (refine Below.then ?_ (by with_reducible assumption)) | go_size)))⟩
                      case measure => simp [intOf]; omega
                  · have hlt2 := HTWO.out rfl rfl
                    have q4 : decide ((EK : Int) ≤ (EN : Int)) = false := by simp; omega
                    go_region
                    all_goals
                      go_wp2_with fail
                      go_roundw
                      case rel => exact ⟨k + 1, hlk, by go_num, Below.then HB4.out (by (repeat' (first | (with_reducible exact Below.refl _ _) | (with_reducible assumption) | (with_reducible refine Below.alloc ?_ ?_ _) | (with_reducible refine Below.drew ?_) | (with_reducible refine Below.draws ?_ _) | (with_reducible refine Below.setCell ?_ ?_ _) | (refine Below.then ?_ (by with_reducible assumption)) | go_size)))⟩
                      case measure => simp [intOf]; omega
                · have hm' : (mk == mi) = false := by simpa using hm
                  go_region
                  all_goals
                    go_wp2_with fail
                    go_roundw
                    case rel => exact ⟨k + 1, hlk, by go_num, Below.then HB4.out (by (repeat' (first | (with_reducible exact Below.refl _ _) | (with_reducible assumption) | (with_reducible refine Below.alloc ?_ ?_ _) | (with_reducible refine Below.drew ?_) | (with_reducible refine Below.draws ?_ _) | (with_reducible refine Below.setCell ?_ ?_ _) | (refine Below.then ?_ (by with_reducible assumption)) | go_size)))⟩
                    case measure => simp [intOf]; omega
            · have hkn : ¬ k < n := hlk
              go_wp2
              go_roundw
              case rel => exact ⟨i + 1, hlt, rfl, by go_num, HB.out.trans (HB2.out.mono HB.out.size)⟩
              case measure => simp [intOf]; omega
        · have e : i = n := by omega
          obtain ⟨LS, hLS⟩ : ∃ B, lsF T q i = B := ⟨_, rfl⟩
          have hge : ∀ j : Nat, j < n → enN T q j ≤ LS := fun j hj => by rw [← hLS]; exact lsF_ge i j (by omega)
          have HGE := Lib.hid hge
          have hn0 : ¬ i < n := hlt
          rw [hLS]
          clear hLS hge
          by_cases q1 : 3 < n
          · have q1' : (3 : Int) < (n : Int) := by omega
            go_wp2_with (go_at_call 13; (with_reducible refine (sane_any _).mono ?_); rintro e w11 ⟨rfl, hb11⟩)
            go_ret
            exact ⟨rfl, Below.then (Below.then W3.out HB.out) hb11⟩
          · have q1' : ¬ (3 : Int) < (n : Int) := by omega
            by_cases q2 : 1200 < LS
            · have q2' : (1200 : Int) < (LS : Int) := by omega
              go_wp2_with (go_at_call 13; (with_reducible refine (sane_any _).mono ?_); rintro e w11 ⟨rfl, hb11⟩)
              go_ret
              exact ⟨rfl, Below.then (Below.then W3.out HB.out) hb11⟩
            · have q2' : ¬ (1200 : Int) < (LS : Int) := by omega
              have hsm : LS ≤ 1200 := by omega
              have e1 := E1
              have HR9 := Lib.hid (HR.out.ext (Below.then W3.out HB.out))
              have HQ9 := Lib.hid (HQ.out.ext (Below.then W3.out HB.out))
              have HR3 := Lib.hid (R3.out.ext HB.out)
              have HW9 := Lib.hid (Below.then W3.out HB.out)
              go_wp2_with (at_make; refine wpList_mkI rfl _ _ rfl n rfl rfl rfl rfl (by omega) (Nat.le_refl _) ?_; intro w5 hown5 hb5 hz5; have HO5 := Lib.hid hown5; have B5 := Lib.hid hb5; clear hown5 hb5)
              obtain ⟨wB, rfl⟩ : ∃ x : World, x = wr := ⟨_, rfl⟩
              have HO6 : Hid (w5.ownsRow wB.heap.size 3 1 (.slice (some ⟨wB.heap.size, 0, none⟩) n n) n ((useL T q 0).flatMap enc1)) := Lib.hid (by rw [useL_zero, HQL.out]; exact HO5.out)
              clear HO5 HR HQ R3 HB W3
              go_loopw [12] (fun i wx => ∃ t : Nat, t ≤ LS ∧ i = .int .i64 t ∧ wx.ownsRow wB.heap.size 3 1 (.slice (some ⟨wB.heap.size, 0, none⟩) n n) n ((useL T q t).flatMap enc1) ∧ Below wB.heap.size wB wx) (fun i _ => LS - (intOf i).toNat)
              case atStart => exact ⟨0, Nat.zero_le _, rfl, HO6.out, B5.out⟩
              case round =>
                clear HO6 B5
                obtain ⟨t, ht, rfl, hO, hB⟩ := hrel
                have HO := Lib.hid hO; have HB := Lib.hid hB
                clear hO hB
                by_cases hlt3 : t < LS
                · have hbu := HBU.out t (by omega)
                  rcases busyF_spec (T := T) (q := q) (t := t) q.length 0 with ⟨e, _⟩ | ⟨j, e, _, hjl, hju⟩
                  · rw [e] at hbu
                    have HBU2 := Lib.hid hbu
                    have HUN := Lib.hid (useL_none HOK.out.ok e)
                    clear hbu e
                    go_wp2_with (go_at_call 39; (with_reducible refine (Busy_is (HR9.out.ext HB.out) (HQ9.out.ext HB.out) HBU2.out).mono ?_); rintro e w6 ⟨rfl, hb6⟩; have B6 := Lib.hid hb6; clear hb6)
                    go_roundw
                    case rel => exact ⟨t + 1, hlt3, by go_num, by rw [HUN.out]; exact owns_ext HO.out B6.out, Below.then HB.out B6.out⟩
                    case measure => simp [intOf]; omega
                  · rw [e] at hbu
                    have hjn : j < n := by omega
                    obtain ⟨⟨mj, oj, kj⟩, b, off, rfl, hb, hg, d1, d2, d3, _⟩ := HQ9.out.rq j hjn
                    simp only [] at d1 d2 d3
                    have hrj := rqAt_of hg
                    have hu2 := useB_iff.1 hju
                    rw [hrj] at hu2
                    simp only [] at hu2
                    have hojn := HOK.out.ok.o _ (List.mem_of_getElem? hg)
                    simp only [] at hojn
                    have hbg := bg_ge (T := T) (q := q) (j : Int)
                    rw [hrj] at hbg
                    simp only [] at hbg
                    obtain ⟨x, b3, o3, rfl, hb3, hc3, hx⟩ := HR3.out.idx j hjn
                    obtain rfl : x = (enN T q j : Int) := by rw [HXS.out j hjn] at hx; simpa using hx.symm
                    have how := HOW.out t mj (by omega) hu2.2
                    have HOWN := Lib.hid how
                    have HBU2 := Lib.hid hbu
                    have HUS := Lib.hid (useL_some HOK.out.ok (by omega) hju)
                    have q5 : decide ((t : Int) < oj) = false := by simp; omega
                    have q6 : decide ((enN T q j : Int) ≤ (t : Int)) = false := by simp; omega
                    have q7 : decide (enN T q j ≤ t) = false := by simp; omega
                    obtain ⟨EN, hEN⟩ : ∃ B, enN T q (j : Int) = B := ⟨_, rfl⟩
                    rw [hEN] at hc3 q6 q7
                    obtain ⟨y, hy, g0, gf0, gz⟩ := ownsI_at HO.out j hjn
                    rw [useL_get (by omega)] at hy
                    have hul := uF_le (T := T) (q := q) j t
                    obtain ⟨U, hU⟩ : ∃ B, uF T q j t = B := ⟨_, rfl⟩
                    rw [hU] at hy hul
                    obtain rfl : y = (U : Int) := by simpa using hy.symm
                    have HUU := Lib.hid hU
                    have q8 : ¬ ((n : Int) ≤ (j : Int)) := by omega
                    have q9 : ¬ (n ≤ j) := by omega
                    clear hbu e hju hg hrj hu2 hbg hx how hEN hy hU hojn
                    go_wp2_with (first
                      | (go_at_call 39; (with_reducible refine (Busy_is (HR9.out.ext HB.out) (HQ9.out.ext HB.out) HBU2.out).mono ?_); rintro e w6 ⟨rfl, hb6⟩; have B6 := Lib.hid hb6; have V6 := Lib.hid (Below.then HB.out hb6); clear hb6)
                      | (go_at_call 27; (with_reducible refine (Owner_val (HR9.out.ext V6.out) HOWN.out).mono ?_); rintro e w7 ⟨rfl, hb7⟩; have B7 := Lib.hid (Below.then B6.out hb7); have V7 := Lib.hid (Below.then V6.out hb7); have k1 := (V7.out.cell (p := ⟨b, off + j * 3, none⟩) hb).trans d1; have k2 := (V7.out.cell (p := ⟨b, off + j * 3 + 1, none⟩) hb).trans d2; have k3 := (V7.out.cell (p := ⟨b3, o3 + j, none⟩) hb3).trans hc3; have k4 := (B7.out.cell (p := ⟨wB.heap.size, j, none⟩) gz).trans g0; have k5 := (B7.out.frozen (p := ⟨wB.heap.size, j, none⟩) gz).trans gf0; clear hb7))
                    go_roundw
                    case rel =>
                      refine ⟨t + 1, hlt3, by go_num, ?_, V7.out.setCell (p := ⟨wB.heap.size, j, none⟩) (Nat.le_refl _) _⟩
                      have h9 := ownsI_set (owns_ext HO.out B7.out) j ((U : Int) + 1)
                      rw [HUS.out, HUU.out]
                      exact h9
                    case measure => simp [intOf]; omega
                · have hte : t = LS := by omega
                  have HUE : Hid (∀ k : Nat, k < n → (useL T q t)[k]? = some (rqAt q k).k) := Lib.hid (fun k hk => by rw [useL_get (by omega), uF_end HOK.out.ok (by omega) (by rw [hte]; exact HGE.out k hk)])
                  clear hte
                  go_wp2
                  go_loopw [17] (fun i wx => ∃ k : Nat, k ≤ n ∧ i = .int .i64 k ∧ Below wr.heap.size wr wx) (fun i _ => n - (intOf i).toNat)
                  case atStart => exact ⟨0, Nat.zero_le _, rfl, Below.refl _ _⟩
                  case round =>
                    obtain ⟨k, hk, rfl, hB2⟩ := hrel
                    have HB2 := Lib.hid hB2
                    clear hB2
                    by_cases hlk : k < n
                    · obtain ⟨⟨mj, oj, kj⟩, b, off, rfl, hb, hg, d1, d2, d3, _⟩ := ((HQ9.out.ext HB.out).ext HB2.out).rq k hlk
                      simp only [] at d3
                      obtain ⟨y, hy, g0, gf0, gz⟩ := ownsI_at (owns_ext HO.out HB2.out) k hlk
                      obtain rfl : y = kj := by
                        have := HUE.out k hlk
                        rw [hy, rqAt_of hg] at this
                        simpa using this
                      clear hg hy
                      go_wp2_with fail
                      go_region
                      all_goals
                        go_wp2_with fail
                        go_roundw
                        case rel => exact ⟨k + 1, hlk, by go_num, Below.then HB2.out (by (repeat' (first | (with_reducible exact Below.refl _ _) | (with_reducible assumption) | (with_reducible refine Below.alloc ?_ ?_ _) | (with_reducible refine Below.drew ?_) | (with_reducible refine Below.draws ?_ _) | (with_reducible refine Below.setCell ?_ ?_ _) | (refine Below.then ?_ (by with_reducible assumption)) | go_size)))⟩
                        case measure => simp [intOf]; omega
                    · go_wp2_with (go_at_call 13; (with_reducible refine (sane_any _).mono ?_); rintro e w11 ⟨rfl, hb11⟩)
                      go_ret
                      exact ⟨rfl, Below.then (HW9.out.trans ((HB.out.trans (HB2.out.mono HB.out.size)).mono HW9.out.size)) hb11⟩
    · have hxs := srv_none hE h0
      subst hxs
      have hz : (E != 0) = true := by simpa using h0
      clear hE h0
      go_enter Try.func10, Try.ntmps10
      go_wp2_with (first
        | (go_at_call 11; (with_reducible refine (HF.out _).mono ?_); rintro e w2 ⟨rfl, rfl⟩)
        | (go_at_call 36; (with_reducible refine (Serve_is HR.out HQ.out HE.out).mono ?_); rintro e w3 ⟨a3, n3, c3, rfl, h3, hb3⟩; have hn3 := (ownsI_rd h3).length; simp only [List.length_nil] at hn3; subst hn3; have W3 := Lib.hid hb3; clear h3 hb3)
        | (go_at_call 13; (with_reducible refine (sane_any _).mono ?_); rintro e w11 ⟨rfl, hb11⟩))
      go_ret
      exact ⟨rfl, Below.then W3.out hb11⟩
  · have HF : Hid (∀ w', Calls Try.prog 11 #[.slice a0 n0 c0, .slice a n c] w' fun e w'' => e = .returned (.bool false) ∧ w' = w'') := Lib.hid (fun w' => few_no hs hs2 h60)
    go_enter Try.func10, Try.ntmps10
    go_wp2_with (first
      | (go_at_call 11; (with_reducible refine (HF.out _).mono ?_); rintro e w2 ⟨rfl, rfl⟩)
      | (go_at_call 13; refine (sane_any _).mono ?_; rintro e w1 ⟨rfl, hb1⟩; obtain ⟨hc1, hf1, hz1, hr1⟩ := bfacts hb1; (try simp only [World.size_alloc, World.size_setCell, World.size_drew, World.size_drewN] at hz1 hr1); (try have hw0 : w.heap.size < w1.heap.size := by omega); (try have hw1 : w.heap.size + 1 < w1.heap.size := by omega); (try have hw2 : w.heap.size + 1 + 1 < w1.heap.size := by omega)))
    go_ret
    exact ⟨rfl, by (repeat' (first | (with_reducible exact Below.refl _ _) | (with_reducible assumption) | (with_reducible refine Below.alloc ?_ ?_ _) | (with_reducible refine Below.drew ?_) | (with_reducible refine Below.draws ?_ _) | (with_reducible refine Below.setCell ?_ ?_ _) | (refine Below.then ?_ (by with_reducible assumption)) | go_size))⟩
end Go.Proofs.Ytgldgomjlcojaaa
