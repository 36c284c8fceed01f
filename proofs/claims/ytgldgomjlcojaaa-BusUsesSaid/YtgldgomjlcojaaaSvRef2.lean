/- The contract of served of the reference. The conditions: the slots and the requests read as named. -/
import Derived.Test.YtgldgomjlcojaaaSvRef
namespace Go.Proofs.Ytgldgomjlcojaaa
open Go.RowKit
set_option linter.unusedSimpArgs false
set_option linter.unusedVariables false
theorem okS_of {l : List P2} {q : List Rq} (hv : validS l = true) (hk : q.all okQ = true) (hc : q.any (fun r => decide (cnt (tableS l) r.m = 0)) = false) : OkS (tableS l) q := by
  have hQM : ∀ r ∈ q, (0 ≤ r.m ∧ r.m ≤ 3) ∧ (0 ≤ r.o ∧ r.o ≤ 10000) ∧ 1 ≤ r.k ∧ r.k ≤ 100 := fun r hr => okQ_iff.1 (List.all_eq_true.1 hk r hr)
  exact ⟨⟨fun r hr => by
    rw [List.any_eq_false] at hc
    have := hc r hr
    simp at this
    omega, fun r hr => (hQM r hr).2.2.1, fun r hr => (hQM r hr).2.1.1⟩, hQM, (tableS_len hv).2⟩
structure SvRf (w4 w : World) (gb ge n : Nat) (bs es : List Int) : Prop where
  b : w.ownsRow w4.heap.size 3 1 (.slice (some ⟨gb, 0, none⟩) n n) n (bs.flatMap enc1)
  e : w.ownsRow w4.heap.size 3 1 (.slice (some ⟨ge, 0, none⟩) n n) n (es.flatMap enc1)
  ne : gb ≠ ge
  lo : w4.heap.size ≤ gb ∧ w4.heap.size ≤ ge
  lb : Below w4.heap.size w4 w
section
variable {w4 w w' : World} {gb ge n : Nat} {bs es : List Int}
theorem SvRf.ext (s : SvRf w4 w gb ge n bs es) (hb : Below w.heap.size w w') : SvRf w4 w' gb ge n bs es := ⟨owns_ext s.b hb, owns_ext s.e hb, s.ne, s.lo, s.lb.trans (hb.mono s.lb.size)⟩
theorem SvRf.setB (s : SvRf w4 w gb ge n bs es) (k : Nat) (x : Int) : SvRf w4 (w.setCell ⟨gb, k, none⟩ (.int .i64 x)) gb ge n (bs.set k x) es := by
  have := s.ne
  exact ⟨ownsI_set s.b k x, owns_away s.e (by omega), s.ne, s.lo, s.lb.setCell (p := ⟨gb, k, none⟩) s.lo.1 _⟩
theorem SvRf.setE (s : SvRf w4 w gb ge n bs es) (k : Nat) (x : Int) : SvRf w4 (w.setCell ⟨ge, k, none⟩ (.int .i64 x)) gb ge n bs (es.set k x) := by
  have := s.ne
  exact ⟨owns_away s.b (by omega), ownsI_set s.e k x, s.ne, s.lo, s.lb.setCell (p := ⟨ge, k, none⟩) s.lo.2 _⟩
end
theorem all_take {q : List Rq} {k : Nat} {r : Rq} {f : Rq → Bool} (h : (q.take k).all f = true) (hg : q[k]? = some r) (hr : f r = true) : (q.take (k + 1)).all f = true := by
  rw [List.take_add_one, hg, List.all_append, h]; simp [hr]
theorem any_take {q : List Rq} {k : Nat} {r : Rq} {f : Rq → Bool} (h : (q.take k).any f = false) (hg : q[k]? = some r) (hr : f r = false) : (q.take (k + 1)).any f = false := by
  rw [List.take_add_one, hg, List.any_append, h]; simp [hr]
theorem srv_bad1 {l : List P2} {q : List Rq} {k : Nat} {r : Rq} (hg : q[k]? = some r) (hr : okQ r = false) : srvR l q = ([], [], 1) := by
  have : q.all okQ = false := by rw [List.all_eq_false]; exact ⟨r, List.mem_of_getElem? hg, by simp [hr]⟩
  have e : srvE l q = 1 := by unfold srvE; rw [this, Bool.and_false]; rfl
  unfold srvR; rw [e]; rfl
theorem srv_bad2 {l : List P2} {q : List Rq} (hv : validS l = true) (hk : q.all okQ = true) (h : 40 < q.length) : srvR l q = ([], [], 2) := by
  have e : srvE l q = 2 := by unfold srvE; rw [hk, hv, if_pos (show (true && true) = true from rfl), if_pos h]
  unfold srvR; rw [e]; rfl
theorem srv_bad3 {l : List P2} {q : List Rq} (hv : validS l = true) (hk : q.all okQ = true) (h : ¬ 40 < q.length) {k : Nat} {r : Rq} (hg : q[k]? = some r) (hr : cnt (tableS l) r.m = 0) : srvR l q = ([], [], 3) := by
  have : q.any (fun r => decide (cnt (tableS l) r.m = 0)) = true := by rw [List.any_eq_true]; exact ⟨r, List.mem_of_getElem? hg, by simp [hr]⟩
  have e : srvE l q = 3 := by unfold srvE; rw [hk, hv, if_pos (show (true && true) = true from rfl), if_neg h, this]; rfl
  unfold srvR; rw [e]; rfl
theorem srv_ok {l : List P2} {q : List Rq} (hv : validS l = true) (hk : q.all okQ = true) (h : ¬ 40 < q.length) (hc : q.any (fun r => decide (cnt (tableS l) r.m = 0)) = false) : srvR l q = (begL (tableS l) q, endL (tableS l) q, 0) := by
  have e : srvE l q = 0 := by unfold srvE; rw [hk, hv, if_pos (show (true && true) = true from rfl), if_neg h, hc]; rfl
  unfold srvR; rw [e]; rfl
set_option maxRecDepth 100000 in
set_option maxHeartbeats 8000000 in
theorem served_is (a0 a : Option Addr) (n0 c0 n c : Nat) (l : List P2) (q : List Rq) (w : World) (hL : Rd w a0 n0 2 (l.map enc2)) (hQ : Rd w a n 3 (q.map encQ)) (R : List Int × List Int × Int) (hR : srvR l q = R) :
    Calls Try.prog 64 #[.slice a0 n0 c0, .slice a n c] w (OutSv w R.1 R.2.1 R.2.2) := by
  have hs := hQ.small
  have hql := hQ.length
  have HQL := Lib.hid hql
  have HL := Lib.hid hL; have HQ := Lib.hid hQ
  have HR := Lib.hid hR
  clear hL hQ hR
  cases hv : validS l
  · have e : R = ([], [], 1) := by rw [← HR.out]; unfold srvR srvE; rw [hv]; rfl
    subst e
    have HV := Lib.hid hv
    clear hv
    go_enter Try.func64, Try.ntmps64
    go_wp2_with (go_at_call 12; (with_reducible refine (rvalid_val HL.out HV.out).mono ?_); rintro e w1 ⟨rfl, rfl⟩)
    refine bodyPost_ret (results_tmp3 rfl _ _ _) rfl ?_
    exact .none (Below.refl _ _)
  · have HV := Lib.hid hv
    clear hv
    go_enter Try.func64, Try.ntmps64
    go_wp2_with (go_at_call 12; (with_reducible refine (rvalid_val HL.out HV.out).mono ?_); rintro e w1 ⟨rfl, rfl⟩)
    go_loopw [7] (fun i wr => ∃ k : Nat, k ≤ n ∧ i = .int .i64 k ∧ (q.take k).all okQ = true ∧ Below w.heap.size w wr) (fun i _ => n - (intOf i).toNat)
    case atStart => exact ⟨0, Nat.zero_le _, rfl, rfl, Below.refl _ _⟩
    case round =>
      obtain ⟨k, hk, rfl, hA, hB⟩ := hrel
      have HA := Lib.hid hA; have HB := Lib.hid hB
      clear hA hB
      by_cases hlt : k < n
      · obtain ⟨⟨m, o, t⟩, b, off, rfl, hb, hg, c1, c2, c3, _⟩ := (HQ.out.ext HB.out).rq k hlt
        simp only [] at c1 c2 c3
        cases hok : okQ ⟨m, o, t⟩
        · have e : R = ([], [], 1) := by rw [← HR.out]; exact srv_bad1 hg hok
          subst e
          have HK : Hid ((validS l && okR m o t) = false) := Lib.hid (by rw [show okR m o t = false from hok, Bool.and_false])
          clear hok hg
          go_wp2_with (go_at_call 47; (with_reducible refine (request_val (HL.out.ext HB.out) HK.out).mono ?_); rintro e w2 ⟨rfl, hb2⟩)
          refine bodyPost_ret (results_tmp3 rfl _ _ _) rfl ?_
          exact .none (Below.then HB.out hb2)
        · have HK : Hid ((validS l && okR m o t) = true) := Lib.hid (by rw [show okR m o t = true from hok, HV.out]; rfl)
          have HA2 := Lib.hid (all_take HA.out hg hok)
          clear hok hg
          go_wp2_with (go_at_call 47; (with_reducible refine (request_val (HL.out.ext HB.out) HK.out).mono ?_); rintro e w2 ⟨rfl, hb2⟩)
          go_roundw
          case rel => exact ⟨k + 1, hlt, by go_num, HA2.out, Below.then HB.out hb2⟩
          case measure => simp [intOf]; omega
      · obtain rfl : k = n := by omega
        have HALL : Hid (q.all okQ = true) := Lib.hid (by have := HA.out; rwa [List.take_of_length_le (by rw [HQL.out]; exact Nat.le_refl _)] at this)
        clear HA hk hlt
        by_cases h40 : 40 < k
        · have e : R = ([], [], 2) := by rw [← HR.out]; exact srv_bad2 HV.out HALL.out (by rw [HQL.out]; exact h40)
          subst e
          have k1 : (40 : Int) < (k : Int) := by omega
          go_wp2
          refine bodyPost_ret (results_tmp3 rfl _ _ _) rfl ?_
          exact .none HB.out
        · have k1 : ¬ (40 : Int) < (k : Int) := by omega
          obtain ⟨T, hT⟩ : ∃ T, T = tableS l := ⟨_, rfl⟩
          have HT := Lib.hid hT
          clear hT
          go_wp2_with (go_at_call 48; (with_reducible refine (table_val (HL.out.ext HB.out) HV.out HT.out).mono ?_); rintro e w5 ⟨a5, n5, c5, rfl, hown5, hb5⟩; have HTR := Lib.hid (ownsI_rd hown5); have HB5 := Lib.hid (HB.out.trans (hb5.mono HB.out.size)); clear hown5 hb5)
          go_loopw [9] (fun i wx => ∃ j : Nat, j ≤ k ∧ i = .int .i64 j ∧ (q.take j).any (fun r => decide (cnt T r.m = 0)) = false ∧ w5 = wx) (fun i _ => k - (intOf i).toNat)
          case atStart => exact ⟨0, Nat.zero_le _, rfl, rfl, rfl⟩
          case round =>
            clear HB
            obtain ⟨j, hj, rfl, hA, rfl⟩ := hrel
            have HA := Lib.hid hA
            clear hA
            by_cases hlt : j < k
            · obtain ⟨⟨m, o, t⟩, b, off, rfl, hb, hg, c1, c2, c3, _⟩ := (HQ.out.ext HB5.out).rq j hlt
              simp only [] at c1 c2 c3
              by_cases hc0 : cnt T m = 0
              · have e : R = ([], [], 3) := by rw [← HR.out]; exact srv_bad3 HV.out HALL.out (by rw [HQL.out]; exact h40) hg (by rw [← HT.out]; exact hc0)
                subst e
                clear hg
                have hz : ((cnt T m : Nat) : Int) = 0 := by omega
                go_wp2_with (go_at_call 49; (with_reducible refine (count_any _ _ _ T _ _ HTR.out).mono ?_); rintro e w6 ⟨rfl, rfl⟩)
                refine bodyPost_ret (results_tmp3 rfl _ _ _) rfl ?_
                exact .none HB5.out
              · have HA2 := Lib.hid (any_take HA.out hg (show decide (cnt T m = 0) = false by simpa using hc0))
                have hz : (((cnt T m : Nat) : Int) == 0) = false := by simp; omega
                clear hg hc0
                go_wp2_with (go_at_call 49; (with_reducible refine (count_any _ _ _ T _ _ HTR.out).mono ?_); rintro e w6 ⟨rfl, rfl⟩)
                go_roundw
                case rel => exact ⟨j + 1, hlt, by go_num, HA2.out, by first | rfl | trivial⟩
                case measure => simp [intOf]; omega
            · obtain rfl : j = k := by omega
              have hcc : q.any (fun r => decide (cnt T r.m = 0)) = false := by have := HA.out; rwa [List.take_of_length_le (by rw [HQL.out]; exact Nat.le_refl _)] at this
              have hOK : OkS T q := by rw [HT.out]; exact okS_of HV.out HALL.out (by rw [← HT.out]; exact hcc)
              have HOK := Lib.hid hOK
              obtain ⟨BL, hBL⟩ : ∃ B, begL T q = B := ⟨_, rfl⟩
              obtain ⟨EL, hEL⟩ : ∃ B, endL T q = B := ⟨_, rfl⟩
              have e : R = (BL, EL, 0) := by rw [← HR.out, ← hBL, ← hEL, HT.out]; exact srv_ok HV.out HALL.out (by rw [HQL.out]; exact h40) (by rw [← HT.out]; exact hcc)
              subst e
              have HBL := Lib.hid hBL; have HEL := Lib.hid hEL
              have htl4 := hOK.t
              clear HA hcc hOK hBL hEL HR hj hlt
              clear wr
              go_wp2_with fail
              have hmk := run_make_row' (P := Try.prog) 48 3 (.int .i64 0) 8 Try.underlying48 (by kernel_rfl) rfl .i64 .i64 j (by omega) (by omega)
              have hO : ∀ k, k < j → ∃ jj : Nat, (ordQ q)[k]? = some (jj : Int) ∧ jj < j := fun k hk => by
                have hlt : k < (ordQ q).length := by rw [ordQ_len, hql]; exact hk
                have := ordQ_mem.1 (List.getElem_mem hlt)
                obtain ⟨jj, e⟩ := Int.eq_ofNat_of_zero_le this.1
                exact ⟨jj, by rw [List.getElem?_eq_getElem hlt, e], by omega⟩
              have HO := Lib.hid hO
              go_cut [10, 11] (fun u v wx => ∃ gb ge : Nat, u = .slice (some ⟨gb, 0, none⟩) j j ∧ v = .slice (some ⟨ge, 0, none⟩) j j ∧ SvRf w5 wx gb ge j (layS j ((ordQ q).take 0) (bgN T q)) (layS j ((ordQ q).take 0) (enN T q)))
              case first =>
                go_region
                all_goals
                  go_wp2_with fail
                  go_meet
                  rw [List.take_zero, layS_nil, layS_nil]
                  have h1 : (w5.drew.alloc (.cells (madeCells #[.int .i64 0] j) 3)).ownsRow w5.heap.size 3 1 (.slice (some ⟨w5.heap.size, 0, none⟩) j j) j ((List.replicate j (0 : Int)).flatMap enc1) := mk_own w5.drew (N := w5.heap.size) (by simp) (by omega)
                  have h2 : ((w5.drew.alloc (.cells (madeCells #[.int .i64 0] j) 3)).alloc (.cells (madeCells #[.int .i64 0] j) 3)).ownsRow w5.heap.size 3 1 (.slice (some ⟨w5.heap.size + 1, 0, none⟩) j j) j ((List.replicate j (0 : Int)).flatMap enc1) := by
                    have := mk_own (w5.drew.alloc (.cells (madeCells #[.int .i64 0] j) 3)) (N := w5.heap.size) (k := j) (by simp) (by omega)
                    simpa using this
                  have h3 := h1.alloc (.cells (madeCells #[.int .i64 0] j) 3)
                  first
                    | exact ⟨_, _, rfl, rfl, ⟨h3, h2, by omega, by omega, by (repeat' (first | (with_reducible exact Below.refl _ _) | (with_reducible assumption) | (with_reducible refine Below.alloc ?_ ?_ _) | (with_reducible refine Below.drew ?_) | (with_reducible refine Below.draws ?_ _) | (with_reducible refine Below.setCell ?_ ?_ _) | (refine Below.then ?_ (by with_reducible assumption)) | go_size))⟩⟩
                    | exact ⟨_, _, rfl, rfl, ⟨h2, h3, by omega, by omega, by (repeat' (first | (with_reducible exact Below.refl _ _) | (with_reducible assumption) | (with_reducible refine Below.alloc ?_ ?_ _) | (with_reducible refine Below.drew ?_) | (with_reducible refine Below.draws ?_ _) | (with_reducible refine Below.setCell ?_ ?_ _) | (refine Below.then ?_ (by with_reducible assumption)) | go_size))⟩⟩
              case rest =>
                obtain ⟨gb, ge, rfl, rfl, hS⟩ := hcut
                have HS := Lib.hid hS
                clear hS hmk hO
                go_wp2
                go_loopw [12] (fun i wr => ∃ p : Nat, p ≤ j ∧ i = .int .i64 p ∧ SvRf w5 wr gb ge j (layS j ((ordQ q).take p) (bgN T q)) (layS j ((ordQ q).take p) (enN T q))) (fun i _ => j - (intOf i).toNat)
                case atStart => exact ⟨0, Nat.zero_le _, rfl, HS.out⟩
                case round =>
                  clear HS
                  obtain ⟨p, hp, rfl, hS⟩ := hrel
                  have HS := Lib.hid hS
                  clear hS
                  by_cases hlp : p < j
                  · obtain ⟨jj, hjj, hjn⟩ := HO.out p hlp
                    have HNX : Hid (nxF q ((ordQ q).take p) (j - 0) 0 (-1) = (jj : Int)) := Lib.hid (by rw [Nat.sub_zero, ← hql]; exact nxF_eq hjj)
                    have HJ := Lib.hid hjj
                    obtain ⟨S, hS⟩ : ∃ S, (ordQ q).take p = S := ⟨_, rfl⟩
                    rw [hS] at HNX HS
                    have HSS := Lib.hid hS
                    clear hjj hS
                    have hOK := HOK.out.ok
                    have hkm := List.mem_of_getElem? HJ.out
                    have HMEM : Hid (∀ x : Int, x ∈ S → x ∈ ordQ q) := Lib.hid (fun x hx => by rw [← HSS.out] at hx; exact List.mem_of_mem_take hx)
                    have HEN : Hid (∀ k : Nat, k < j → (k : Int) ∈ S → 0 < enN T q (k : Int) ∧ enN T q (k : Int) ≤ 2000000) := Lib.hid (fun k hk hm => by
                      have hm' := HMEM.out _ hm
                      have h1 := bg_lt_en hOK hm'
                      have h2 := bg_far HOK.out (by rw [hql]; omega) hm'
                      omega)
                    obtain ⟨⟨rm, ro, rk⟩, b, off, rfl, hb, hr, r0, r1, r2, _⟩ := (HQ.out.ext HB5.out).rq jj hjn
                    obtain ⟨l1, l2, l3, l4⟩ := HOK.out.b _ (List.mem_of_getElem? hr)
                    have hcn := hOK.c _ (List.mem_of_getElem? hr)
                    simp only [] at r0 r1 r2 l1 l2 l3 l4 hcn
                    obtain ⟨mm, rfl⟩ := Int.eq_ofNat_of_zero_le l1.1
                    obtain ⟨oo, rfl⟩ := Int.eq_ofNat_of_zero_le l2.1
                    obtain ⟨tk, rfl⟩ := Int.eq_ofNat_of_zero_le (show 0 ≤ rk by omega)
                    have hrq := rqAt_of hr
                    have hfar := bg_far HOK.out (by rw [hql]; omega) hkm
                    have hmx := mxF_eq hOK HJ.out
                    have hen : enN T q (jj : Int) = endN T (mm : Int) (bgN T q (jj : Int)) tk := by unfold enN; rw [hrq]; simp
                    have hlb := layS_step (n := j) (bgN T q) HJ.out hjn
                    have hle := layS_step (n := j) (enN T q) HJ.out hjn
                    rw [hrq, hql, HSS.out] at hmx
                    try simp only [] at hmx
                    rw [HSS.out] at hlb hle
                    obtain ⟨BG, hBG⟩ : ∃ B, bgN T q (jj : Int) = B := ⟨_, rfl⟩
                    obtain ⟨EN, hEN⟩ : ∃ B, enN T q (jj : Int) = B := ⟨_, rfl⟩
                    rw [hBG] at hen hfar hlb hmx
                    rw [hEN] at hen hfar hle
                    have hwr : IntKind.i64.wrap ((BG : Int) + dl T (mm : Int) tk BG) = (EN : Int) := by
                      have e : (BG : Int) + dl T (mm : Int) tk BG = (EN : Int) := by unfold dl; rw [← hen]; omega
                      rw [e]; exact IntWalk.i64_in _ (by omega)
                    have HWR := Lib.hid hwr; have HLB := Lib.hid hlb; have HLE := Lib.hid hle; have HCN := Lib.hid hcn; have HMX := Lib.hid hmx; have HENN := Lib.hid hen
                    have hBGf : BG ≤ 2000000 := hfar.1
                    have hENf : EN ≤ 2000000 := hfar.2
                    have hb5z : b < w5.heap.size := hb
                    have HR0 := Lib.hid r0; have HR1 := Lib.hid r1; have HR2 := Lib.hid r2
                    have hbge : b ≠ ge := by have := HS.out.lo.2; omega
                    have hgbe : ge ≠ gb := fun e => HS.out.ne e.symm
                    clear hr hrq hkm hOK hfar hmx hen hlb hle hBG hEN hwr l1 l2 hcn r0 r1 r2
                    go_wp2
                    go_loopw [13, 14] (fun b i wx => ∃ (k : Nat) (bb : Int), k ≤ j ∧ b = .int .i64 bb ∧ i = .int .i64 k ∧ -1 ≤ bb ∧ bb < k ∧ nxF q S (j - k) k bb = (jj : Int) ∧ SvRf w5 wx gb ge j (layS j S (bgN T q)) (layS j S (enN T q))) (fun _ i _ => j - (intOf i).toNat)
                    case atStart => exact ⟨0, -1, Nat.zero_le _, rfl, rfl, by omega, by omega, HNX.out, HS.out⟩
                    case round =>
                      clear HNX HS
                      obtain ⟨k, bb, hk, rfl, rfl, hb1, hb2, hN, hS⟩ := hrel
                      have HN := Lib.hid hN
                      have HS := Lib.hid hS
                      clear hN hS
                      by_cases hkj : k < j
                      · obtain ⟨x, hx, e0, _, _⟩ := ownsI_at HS.out.e k hkj
                        rw [layS_get S _ hkj] at hx
                        have hNs := HN.out
                        rw [show j - k = (j - (k + 1)) + 1 by omega, nxF] at hNs
                        by_cases hm : (k : Int) ∈ S
                        · rw [if_neg (fun q => q.1 hm)] at hNs
                          have HNs := Lib.hid hNs
                          rw [if_pos hm] at hx
                          have hp0 := HEN.out k hkj hm
                          obtain ⟨E, hE⟩ : ∃ E, enN T q (k : Int) = E := ⟨_, rfl⟩
                          rw [hE] at hx hp0
                          obtain rfl : x = (E : Int) := by simpa using hx.symm
                          have hz : ((E : Int) == 0) = false := by simp; omega
                          clear hx hE hm hNs
                          go_wp2
                          go_roundw
                          case rel => exact ⟨k + 1, bb, hkj, rfl, by go_num, hb1, by omega, HNs.out, HS.out⟩
                          case measure => simp [intOf]; omega
                        · rw [if_neg hm] at hx
                          obtain rfl : x = 0 := by simpa using hx.symm
                          by_cases hb0 : bb < 0
                          · rw [if_pos ⟨hm, .inl hb0⟩] at hNs
                            have HNs := Lib.hid hNs
                            clear hx hm hNs
                            go_wp2
                            go_roundw
                            case rel => exact ⟨k + 1, k, hkj, rfl, by go_num, by omega, by omega, HNs.out, HS.out⟩
                            case measure => simp [intOf]; omega
                          · have hb0' : decide (bb < 0) = false := by simpa using hb0
                            cases ha : aheadQ q k bb
                            · rw [if_neg (fun q => by rcases q.2 with h | h; exact hb0 h; rw [ha] at h; cases h)] at hNs
                              have HNs := Lib.hid hNs
                              have HA := Lib.hid ha
                              clear hx hm hNs ha
                              go_wp2_with (go_at_call 73; (with_reducible refine (rqahead_is hkj (by omega) ((HQ.out.ext HB5.out).ext HS.out.lb) HA.out).mono ?_); rintro e w8 ⟨rfl, hb8⟩)
                              go_roundw
                              case rel => exact ⟨k + 1, bb, hkj, rfl, by go_num, hb1, by omega, HNs.out, HS.out.ext hb8⟩
                              case measure => simp [intOf]; omega
                            · rw [if_pos ⟨hm, .inr ha⟩] at hNs
                              have HNs := Lib.hid hNs
                              have HA := Lib.hid ha
                              clear hx hm hNs ha
                              go_wp2_with (go_at_call 73; (with_reducible refine (rqahead_is hkj (by omega) ((HQ.out.ext HB5.out).ext HS.out.lb) HA.out).mono ?_); rintro e w8 ⟨rfl, hb8⟩)
                              go_roundw
                              case rel => exact ⟨k + 1, k, hkj, rfl, by go_num, by omega, by omega, HNs.out, HS.out.ext hb8⟩
                              case measure => simp [intOf]; omega
                      · have hbb : bb = (jj : Int) := by
                          have := HN.out
                          rw [show j - k = 0 by omega] at this; exact this
                        subst hbb
                        have r1 := (HS.out.lb.cell (p := ⟨b, off + jj * 3 + 1, none⟩) hb5z).trans HR1.out
                        obtain ⟨x, _, g0, gf0, gz⟩ := ownsI_at HS.out.b jj hjn
                        have hkjo := hkj
                        go_wp2
                        go_loopw [15] (fun i wx => ∃ (k : Nat) (x : Int), k ≤ j ∧ i = .int .i64 k ∧ mxF T q S (mm : Int) (j - k) k x = (BG : Int) ∧ SvRf w5 wx gb ge j ((layS j S (bgN T q)).set jj x) (layS j S (enN T q))) (fun i _ => j - (intOf i).toNat)
                        case atStart => exact ⟨0, (oo : Int), Nat.zero_le _, rfl, by simpa using HMX.out, HS.out.setB jj (oo : Int)⟩
                        case round =>
                          clear HS HN r1 g0 gf0 gz
                          obtain ⟨k, x, hk, rfl, hN, hS⟩ := hrel
                          have HN := Lib.hid hN
                          have HS := Lib.hid hS
                          clear hN hS
                          have r0 := (HS.out.lb.cell (p := ⟨b, off + jj * 3, none⟩) hb5z).trans HR0.out
                          by_cases hkj : k < j
                          · obtain ⟨y, hy, e0, _, _⟩ := ownsI_at HS.out.e k hkj
                            rw [layS_get S _ hkj] at hy
                            have hNs := HN.out
                            rw [show j - k = (j - (k + 1)) + 1 by omega, mxF] at hNs
                            by_cases hm : (k : Int) ∈ S
                            · rw [if_pos hm] at hy
                              have hp0 := HEN.out k hkj hm
                              obtain ⟨⟨um, uo, uk⟩, b', off', e', hb', hr', u0, _, _, _⟩ := ((HQ.out.ext HB5.out).ext HS.out.lb).rq k hkj
                              simp at e'
                              obtain ⟨rfl, rfl⟩ := e'
                              rw [rqAt_of hr'] at hNs
                              simp only [] at u0 hNs
                              obtain ⟨E, hE⟩ : ∃ E, enN T q (k : Int) = E := ⟨_, rfl⟩
                              rw [hE] at hy hp0 hNs
                              obtain rfl : y = (E : Int) := by simpa using hy.symm
                              have hz : decide (0 < (E : Int)) = true := by simp; omega
                              have hz' : decide (0 < E) = true := by simp; omega
                              by_cases hmm : um = (mm : Int)
                              · rw [if_pos ⟨hm, hmm⟩] at hNs
                                have HNs := Lib.hid hNs
                                have hq1 : (um == (mm : Int)) = true := by simpa using hmm
                                subst hmm
                                obtain ⟨x', hx', g0, gf0, gz⟩ := ownsI_at HS.out.b jj hjn
                                rw [List.getElem?_set] at hx'
                                simp at hx'
                                obtain ⟨_, rfl⟩ := hx'
                                clear hy hE hm hNs hr'
                                go_wp2_with fail
                                go_region
                                all_goals
                                  go_wp2_with fail
                                  go_region
                                  all_goals
                                    go_wp2_with fail
                                    go_roundw
                                    case rel =>
                                      refine ⟨k + 1, max x (E : Int), hkj, by go_num, HNs.out, ?_⟩
                                      have h9 := ((HS.out.ext (by (repeat' (first | (with_reducible exact Below.refl _ _) | (with_reducible assumption) | (with_reducible refine Below.alloc ?_ ?_ _) | (with_reducible refine Below.drew ?_) | (with_reducible refine Below.draws ?_ _) | (with_reducible refine Below.setCell ?_ ?_ _) | (refine Below.then ?_ (by with_reducible assumption)) | go_size)))).setB jj (max x (E : Int)))
                                      rw [List.set_set] at h9
                                      exact h9.ext (by (repeat' (first | (with_reducible exact Below.refl _ _) | (with_reducible assumption) | (with_reducible refine Below.alloc ?_ ?_ _) | (with_reducible refine Below.drew ?_) | (with_reducible refine Below.draws ?_ _) | (with_reducible refine Below.setCell ?_ ?_ _) | (refine Below.then ?_ (by with_reducible assumption)) | go_size)))
                                    case measure => simp [intOf]; omega
                              · rw [if_neg (fun q => hmm q.2)] at hNs
                                have HNs := Lib.hid hNs
                                have hq1 : (um == (mm : Int)) = false := by simpa using hmm
                                clear hy hE hm hNs hr'
                                go_wp2_with fail
                                go_region
                                all_goals
                                  go_wp2_with fail
                                  go_roundw
                                  case rel => exact ⟨k + 1, x, hkj, by go_num, HNs.out, HS.out.ext (by (repeat' (first | (with_reducible exact Below.refl _ _) | (with_reducible assumption) | (with_reducible refine Below.alloc ?_ ?_ _) | (with_reducible refine Below.drew ?_) | (with_reducible refine Below.draws ?_ _) | (with_reducible refine Below.setCell ?_ ?_ _) | (refine Below.then ?_ (by with_reducible assumption)) | go_size)))⟩
                                  case measure => simp [intOf]; omega
                            · rw [if_neg hm] at hy
                              obtain rfl : y = 0 := by simpa using hy.symm
                              rw [if_neg (fun q => hm q.1)] at hNs
                              have HNs := Lib.hid hNs
                              clear hy hm hNs
                              go_wp2_with fail
                              go_region
                              all_goals
                                go_wp2_with fail
                                go_roundw
                                case rel => exact ⟨k + 1, x, hkj, by go_num, HNs.out, HS.out.ext (by (repeat' (first | (with_reducible exact Below.refl _ _) | (with_reducible assumption) | (with_reducible refine Below.alloc ?_ ?_ _) | (with_reducible refine Below.drew ?_) | (with_reducible refine Below.draws ?_ _) | (with_reducible refine Below.setCell ?_ ?_ _) | (refine Below.then ?_ (by with_reducible assumption)) | go_size)))⟩
                                case measure => simp [intOf]; omega
                          · have hbb : x = (BG : Int) := by
                              have := HN.out
                              rw [show j - k = 0 by omega] at this; exact this
                            subst hbb
                            have HS2 : Hid (SvRf w5 wr gb ge j (layS j ((ordQ q).take (p + 1)) (bgN T q)) (layS j S (enN T q))) := Lib.hid (by rw [HLB.out]; exact HS.out)
                            have hS2 := HS2.out
                            have g0 : wr.cell? ⟨gb, jj, none⟩ = some (.int .i64 (BG : Int)) := by
                              obtain ⟨y, hy, g, _⟩ := ownsI_at hS2.b jj hjn
                              rw [HLB.out, List.getElem?_set] at hy
                              simp at hy
                              rw [g, ← hy.2]
                            obtain ⟨y, _, e0, ef0, ez⟩ := ownsI_at hS2.e jj hjn
                            have r2 := (hS2.lb.cell (p := ⟨b, off + jj * 3 + 2, none⟩) hb5z).trans HR2.out
                            have hn5 : n5 ≤ 400 := by have := HTR.out.length; omega
                            have HT6 : Hid (Rd wr.drew a5 n5 1 (T.map enc1)) := Lib.hid ((HTR.out.ext hS2.lb).ext (Below.refl wr.heap.size wr).drew)
                            have hE1 : endN T (mm : Int) BG tk ≤ 100000000 := by rw [← HENN.out]; omega
                            have HE1 := Lib.hid hE1
                            have hwr := HWR.out
                            clear HS HN hE1 hS2
                            go_wp2_with fail
                            go_region_held3 (fun w' => w'.cell? ⟨b, off + jj * 3, none⟩ = some (.int .i64 (mm : Int)) ∧ w'.cell? ⟨b, off + jj * 3 + 2, none⟩ = some (.int .i64 (tk : Int)) ∧ w'.cell? ⟨gb, jj, none⟩ = some (.int .i64 (BG : Int))) (first | (refine ⟨?_, ?_, ?_⟩ <;> first | assumption | (refine (World.cell?_setCell_other _ _ _ _ (addr_neQ (.inl (by omega)))).trans ?_; assumption)) | go_keep)
                              (first
                                | (go_at_call 50; (with_reducible refine (delay_any _ _ _ T (mm : Int) BG tk (by omega) (by omega) (by omega) HE1.out HCN.out hn5 _ HT6.out).mono ?_); rintro e w8 ⟨rfl, rfl⟩))
                            all_goals
                              have HS3 : Hid (SvRf w5 (wr.drew.setCell ⟨ge, jj, none⟩ (.int .i64 (EN : Int))) gb ge j (layS j ((ordQ q).take (p + 1)) (bgN T q)) (layS j ((ordQ q).take (p + 1)) (enN T q))) := Lib.hid (by
                                rw [HLE.out]
                                exact (HS2.out.ext (Below.refl wr.heap.size wr).drew).setE jj (EN : Int))
                              go_wp2
                              go_roundw
                              case rel => exact ⟨p + 1, hlp, by go_num, HS3.out⟩
                              case measure => simp [intOf]; omega
                  · obtain rfl : p = j := by omega
                    have hall : ∀ i ∈ idxs p, i ∈ (ordQ q).take p := fun i hi => by
                      rw [List.take_of_length_le (by rw [ordQ_len, hql]; exact Nat.le_refl _), ordQ_mem, hql]; exact idxs_mem.1 hi
                    have HBE : Hid (layS p ((ordQ q).take p) (bgN T q) = BL) := Lib.hid (by rw [layS_all hall, ← HBL.out]; unfold begL; rw [hql])
                    have HEE : Hid (layS p ((ordQ q).take p) (enN T q) = EL) := Lib.hid (by rw [layS_all hall, ← HEL.out]; unfold endL; rw [hql])
                    clear hall
                    go_wp2
                    refine bodyPost_ret (results_tmp3 rfl _ _ _) rfl ?_
                    refine ⟨_, _, _, _, _, _, rfl, ?_, ?_, HB5.out.trans (HS.out.lb.mono HB5.out.size)⟩
                    · have := HS.out.b; rw [HBE.out] at this; exact owns_mono this HB5.out.size
                    · have := HS.out.e; rw [HEE.out] at this; exact owns_mono this HB5.out.size
end Go.Proofs.Ytgldgomjlcojaaa
