/- The contract of the machine's arrivals. The conditions: the machine reads as named. The contract of play. The conditions: the run reads as named. Plain facts: supplies, costs, demands, windows. No condition: plain lemmas. Contracts of the functions of arrive and of its reference that only compute with numbers. No condition beyond those that each contract names. Plain facts: validity, demands, windows, who meets. No condition: plain lemmas. The contracts of Valid of supply and of its reference. The conditions: numbers in range where named. -/
import Derived.Test.YtmahagcghpoekaaMg4
import Derived.Deep.RegionLaw
import Derived.Deep.RegionHeldLaw
import Derived.IntWalk
import Derived.Test.YtmahagcghpoekaaMg2
import Derived.Deep.OwnRows
import Derived.Test.YtmahagcghpoekaaMg1
import Derived.Deep.RegionHeld3
namespace Go.Proofs.Ytmahagcghpoekaa
open Go.RowKit
set_option linter.unusedSimpArgs false
set_option linter.unusedVariables false
theorem push_step {M : MPar} {wr wb w1 : World} {s : Ms} {i : Nat} {g : Nat → Hdr} {a' : Option Addr} {c' : Nat} {x : Int} (hM : Mach M wr s) (hl : MLay M) (hi : i < M.R.L.length) (g1 : ∀ k, k < M.R.L.length → wr.cell? ⟨M.W, k, none⟩ = some (sl (g k))) (g2 : IRows M.K wr M.R.L.length g s.qa)
    (hbb : Below wr.heap.size wr wb) (hown : w1.ownsRow M.K 3 1 (.slice a' ((g i).n + 1) c') ((g i).n + 1) ((s.qa i ++ [x]).flatMap enc1)) (hg : wb.grownBy w1 (sl (g i)).ownBlock)
    (hb : (Value.slice a' ((g i).n + 1) c').ownBlock = (sl (g i)).ownBlock ∨ (Value.slice a' ((g i).n + 1) c').ownBlock = some wb.heap.size) :
    w1.cell? ⟨M.p, 7, none⟩ = some (.slice (some ⟨M.W, 0, none⟩) M.R.L.length M.R.L.length) ∧ w1.cell? ⟨M.W, i, none⟩ = some (sl (g i)) ∧ w1.frozen? ⟨M.W, i, none⟩ = false ∧
    Hid (Mach M (w1.setCell ⟨M.W, i, none⟩ (.slice a' ((g i).n + 1) c')) { s with q := s.q.set i (s.qa i ++ [x]) }) := by
  have hk := hM.kl
  have hMb := hM.ext hl hbb
  have hkb := hMb.kl
  have g2b := g2.ext hbb
  have hWz : M.W < wr.heap.size := Nat.lt_of_lt_of_le hl.W.2 hk
  have g1b : ∀ k, k < M.R.L.length → wb.cell? ⟨M.W, k, none⟩ = some (sl (g k)) := fun k hk => (hbb.cell (p := ⟨M.W, k, none⟩) hWz).trans (g1 k hk)
  have hbK : Below M.K wb w1 := grown_below (g2b.own i hi) hg hkb
  have hp2 := hbK.cell (p := ⟨M.p, 7, none⟩) hl.p.2
  refine ⟨hp2.trans hMb.c7, (hbK.cell (p := ⟨M.W, i, none⟩) hl.W.2).trans (g1b i hi), (hbK.frozen (p := ⟨M.W, i, none⟩) hl.W.2).trans (hMb.fw i), Lib.hid ?_⟩
  exact hMb.queue hl hi hbK (fun a m c h => owns_kept h (g2b.own i hi) (by decide) hg) g1b (d := ⟨a', (g i).n + 1, c'⟩) (g2b.push hi hown hg hb)
theorem relA_drop {t : Int} {k : Nat} {evs : List (List P2)} {s : Ms} (h : k < evs.length) : relA t k (evs.drop k) s = relA t (k + 1) (evs.drop (k + 1)) (relE t k 0 (evAt evs k) s) := by
  rw [List.drop_eq_getElem_cons h, relA]
  unfold evAt; rw [List.getElem?_eq_getElem h]; rfl
theorem sigA_qa (t : Int) : ∀ (gs : List P2) (s : Ms) {x : Nat}, (sigA t gs s).qa x = s.qa x
  | [], s, x => rfl
  | g :: gs, s, x => by
    rw [sigA, sigA_qa t gs]
    unfold Ms.qa; rw [sigS_spec.1]
set_option maxRecDepth 100000 in
set_option maxHeartbeats 8000000 in
theorem arrivals_any {M : MPar} {w : World} {s : Ms} {t : Nat} (hM : Mach M w s) (hl : MLay M) (hR : RdRun M.w0 M.H M.R) (hr : RnOk M.R) (hO : MOk M.R s) (hOf : M.O = ofL M.R.L) (hqn : ∀ x, ((relA t 0 M.R.ev s).qa x).length ≤ 100) (ho : s.o.length ≤ 1000000) (ht : t ≤ 10000) :
    Calls Try.prog 61 #[.pointer (some ⟨M.p, 0, none⟩), .int .i64 t] w fun e w' => e = .returned (.tuple #[]) ∧ Mach M w' (arrA M.R t s) := by
  have c3 := hM.c3
  have c5 := hM.c5
  have e1 := E1
  have HM := Lib.hid hM; have HR := Lib.hid hR; have HRN := Lib.hid hr; have HO := Lib.hid hO; have HQN := Lib.hid hqn
  have hen := hR.e.len
  have hen2 := hr.ev
  have HEN := Lib.hid hen
  have hL5 := hr.r.len
  obtain ⟨nL, hnL⟩ : ∃ x, M.R.L.length = x := ⟨_, rfl⟩
  have HNL := Lib.hid hnL
  have hE5 : M.H.eN = nL := by omega
  have hn5 : nL ≤ 5 := by omega
  rw [hE5] at c3
  obtain ⟨eA, heA⟩ : ∃ x, M.H.eA = x := ⟨_, rfl⟩
  rw [heA] at c3
  have HEA := Lib.hid heA
  clear heA
  obtain ⟨sA, hsA⟩ : ∃ x, M.H.sA = x := ⟨_, rfl⟩
  obtain ⟨nS, hnS⟩ : ∃ x, M.H.sN = x := ⟨_, rfl⟩
  rw [hsA, hnS] at c5
  have HSG : Hid (Rd M.w0 sA nS 2 (M.R.sg.map enc2)) := Lib.hid (by rw [← hsA, ← hnS]; exact hR.s)
  have hnS40 : nS ≤ 40 := by rw [← HSG.out.length]; exact hr.sl
  clear hsA hnS
  have HC5 := Lib.hid c5
  have HC0 := Lib.hid hM.c0
  clear c5
  obtain ⟨S1, hS1⟩ : ∃ x, relA (t : Int) 0 M.R.ev s = x := ⟨_, rfl⟩
  have HS1 : Hid (relA (t : Int) 0 (M.R.ev.drop 0) s = S1) := Lib.hid hS1
  have HS1' := Lib.hid hS1
  have HE5 := Lib.hid hE5
  clear hM hR hr hO hqn hen hnL hS1 hen2 hE5
  go_enter Try.func61, Try.ntmps61
  go_wp2
  go_loopw [18] (fun i wr => ∃ (k : Nat) (sr : Ms), k ≤ nL ∧ i = .int .i64 k ∧ Mach M wr sr ∧ relA (t : Int) k (M.R.ev.drop k) sr = S1 ∧ sr.o.length ≤ s.o.length + 40 * k) (fun i _ => nL - (intOf i).toNat)
  case atStart => exact ⟨0, s, Nat.zero_le _, rfl, HM.out, HS1.out, by omega⟩
  case round =>
    clear HS1
    obtain ⟨k, sr, hk, rfl, hM, hS, hob⟩ := hrel
    have HM2 := Lib.hid hM
    clear hM
    by_cases hkn : k < nL
    · have hkE : k < M.H.eN := by rw [HE5.out]; exact hkn
      have hkL : k < M.R.L.length := by rw [HNL.out]; exact hkn
      have hkev : k < M.R.ev.length := by rw [HEN.out]; exact hkE
      obtain ⟨b, off, ea, en, ec, hea, hb, hc, hRd⟩ := HR.out.e.at_ k hkE
      have hc' := (HM2.out.lb.cell (p := ⟨b, off + k, none⟩) hb).trans hc
      have hel := HRN.out.el (evAt M.R.ev k) (by unfold evAt; rw [List.getElem?_eq_getElem hkev]; exact List.getElem_mem hkev)
      have hen40 : en ≤ 40 := by rw [← hRd.length]; exact hel.1
      rw [relA_drop hkev] at hS
      obtain ⟨es, hes⟩ : ∃ x, evAt M.R.ev k = x := ⟨_, rfl⟩
      rw [hes] at hS hRd hel
      have HRD := Lib.hid hRd
      have HEL := Lib.hid hel.2
      obtain ⟨S2, hS2⟩ : ∃ x, relE (t : Int) k 0 es sr = x := ⟨_, rfl⟩
      rw [hS2] at hS
      have hS2l : S2.q.length = M.R.L.length ∧ ∀ x, (sr.qa x).length ≤ (S2.qa x).length := by
        rw [← hS2, relE_eq _ _ _ _ _ (by rw [HM2.out.ql]; exact hkL)]
        refine ⟨by simpa using HM2.out.ql, fun x => ?_⟩
        rw [qa_set (q := sr.q) (by rw [HM2.out.ql]; exact hkL)]
        split
        · rename_i e; subst e; simp
        · exact Nat.le_refl _
      have HB2 : Hid (∀ x, (S2.qa x).length ≤ 100) := Lib.hid (fun x => by
        have h1 := HQN.out x
        rw [HS1'.out, ← hS, (relA_spec (t : Int) (M.R.ev.drop (k + 1)) (k + 1) S2 (by rw [hS2l.1, List.length_drop, HNL.out, HEN.out, HE5.out]; omega)).2.2 x, List.length_append] at h1
        omega)
      have HS := Lib.hid hS
      have HS2 : Hid (relE (t : Int) k 0 (es.drop 0) sr = S2) := Lib.hid hS2
      obtain rfl : eA = some ⟨b, off, none⟩ := HEA.out.symm.trans hea
      clear hS hS2 hes hRd hel hc hS2l hea
      go_wp2
      go_loopw [25] (fun i wx => ∃ (j : Nat) (sx : Ms), j ≤ en ∧ i = .int .i64 j ∧ Mach M wx sx ∧ relE (t : Int) k j (es.drop j) sx = S2 ∧ sx.o.length ≤ s.o.length + 40 * k + j) (fun i _ => en - (intOf i).toNat)
      case atStart => exact ⟨0, sr, Nat.zero_le _, rfl, HM2.out, HS2.out, by omega⟩
      case round =>
        clear HS2 HM2 hc'
        obtain ⟨j, sx, hj, rfl, hM, hS, hob2⟩ := hrel
        have HM3 := Lib.hid hM
        have hqk : (sx.qa k).length ≤ 100 := by
          have h1 := HB2.out k
          rw [← hS, relE_eq _ _ _ _ _ (by rw [hM.ql]; exact hkL), qa_self (by rw [hM.ql]; exact hkL), List.length_append] at h1
          omega
        have HQK := Lib.hid hqk
        by_cases hjn : j < en
        · have hRx := HRD.out.ext hM.lb
          obtain ⟨hjl, b2, off2, rfl, hb2, d0, d1⟩ := hRx.two j hjn
          obtain ⟨⟨x, y⟩, hxy⟩ : ∃ p, es[j] = p := ⟨_, rfl⟩
          have hmem : (x, y) ∈ es := by rw [← hxy]; exact List.getElem_mem hjl
          have hlim := HEL.out _ hmem
          rw [hxy] at d0 d1
          simp only [] at d0 d1 hlim
          rw [List.drop_eq_getElem_cons hjl, relE, hxy] at hS
          simp only [] at hS
          have wx : IntKind.i64.wrap (x + y) = x + y := IntWalk.i64_in _ (by omega)
          by_cases hxt : x + y = (t : Int)
          · have hxt' : (x + y == (t : Int)) = true := by simpa using hxt
            rw [if_pos hxt] at hS
            have HSN := Lib.hid hS
            have HMB : Hid (Mach M (wr.alloc (.cells #[.int .i64 x, .int .i64 y] 26)) sx) := Lib.hid (hM.ext hl (by (repeat' (first | (with_reducible exact Below.refl _ _) | (with_reducible assumption) | (with_reducible refine Below.alloc ?_ ?_ _) | (with_reducible refine Below.drew ?_) | (with_reducible refine Below.draws ?_ _) | (with_reducible refine Below.setCell ?_ ?_ _) | (refine Below.then ?_ (by with_reducible assumption)) | go_size))))
            clear hM hS hRx hxy hmem hlim
            go_wp2_with (go_at_call 62; (with_reducible refine (write_any hl HMB.out (by omega) _ _ _ _ _).mono ?_); rintro e w6 ⟨rfl, hM6⟩; have HM6 := Lib.hid hM6; clear hM6)
            obtain ⟨s6, hs6⟩ : ∃ z, z = sx.wr ⟨(t : Int), (k : Int), 1, (j : Int), 0⟩ := ⟨_, rfl⟩
            rw [← hs6] at HM6
            obtain ⟨g, g1, g2⟩ := HM6.out.qu
            have q7 := HM6.out.c7
            have qW := g1 k hkL
            unfold sl at qW
            have G1 := Lib.hid g1; have G2 := Lib.hid g2
            have hWz : M.W < w6.heap.size := Nat.lt_of_lt_of_le hl.W.2 HM6.out.kl
            have hpz : M.p < w6.heap.size := Nat.lt_of_lt_of_le hl.p.2 HM6.out.kl
            have hfW := HM6.out.fw k
            have hKl := HM6.out.kl
            have hgn : (g k).n ≤ 1000 := by
              rw [← g2.len hkL]
              have : s6.qa k = sx.qa k := by rw [hs6]; rfl
              rw [this]; omega
            have HS6 := Lib.hid hs6
            clear g1 g2 hs6
            rw [HNL.out] at q7
            go_wp2_with fail
            go_region_law ((refine step_app2 (by rfl) _ _ _ (by rfl) e1 (B := M.K) (news := [.int .i64 (j : Int)]) (by rfl) (by exact (G2.out.ext (by (repeat' (first | (with_reducible exact Below.refl _ _) | (with_reducible assumption) | (with_reducible refine Below.alloc ?_ ?_ _) | (with_reducible refine Below.drew ?_) | (with_reducible refine Below.draws ?_ _) | (with_reducible refine Below.setCell ?_ ?_ _) | (refine Below.then ?_ (by with_reducible assumption)) | go_size)))).own k hkL) (by rfl) (by rfl) (by exact World.news_of_block (heap_alloc_new _ _)) (by intro u hu; simp at hu; rcases hu with rfl; rfl) (by omega) (by omega) (by decide) (by simp; omega) ?_; intro a1 c1 w7 hown1 hg1 hb1; obtain ⟨p7, pW, pf, HX⟩ := push_step HM6.out hl hkL G1.out G2.out (by (repeat' (first | (with_reducible exact Below.refl _ _) | (with_reducible assumption) | (with_reducible refine Below.alloc ?_ ?_ _) | (with_reducible refine Below.drew ?_) | (with_reducible refine Below.draws ?_ _) | (with_reducible refine Below.setCell ?_ ?_ _) | (refine Below.then ?_ (by with_reducible assumption)) | go_size))) (ownsI_snoc hown1) hg1 hb1; rw [HNL.out] at p7; clear hown1 hg1 hb1))
            all_goals
              go_wp2_with fail
              go_roundw
              case rel => exact ⟨j + 1, _, hjn, by go_num, HX.out, by rw [HS6.out]; exact HSN.out, by rw [HS6.out]; simp [Ms.wr]; omega⟩
              case measure => simp [intOf]; omega
          · have hxt' : (x + y == (t : Int)) = false := by simpa using hxt
            rw [if_neg hxt] at hS
            have HSN := Lib.hid hS
            have HMB : Hid (Mach M (wr.alloc (.cells #[.int .i64 x, .int .i64 y] 26)) sx) := Lib.hid (hM.ext hl (by (repeat' (first | (with_reducible exact Below.refl _ _) | (with_reducible assumption) | (with_reducible refine Below.alloc ?_ ?_ _) | (with_reducible refine Below.drew ?_) | (with_reducible refine Below.draws ?_ _) | (with_reducible refine Below.setCell ?_ ?_ _) | (refine Below.then ?_ (by with_reducible assumption)) | go_size))))
            clear hM hS hRx hxy hmem hlim
            go_wp2
            go_roundw
            case rel => exact ⟨j + 1, sx, hjn, by go_num, HMB.out, HSN.out, by omega⟩
            case measure => simp [intOf]; omega
        · have he : sx = S2 := by
            rw [List.drop_of_length_le (by have := HRD.out.length; omega)] at hS
            exact hS
          subst he
          clear hM hS
          go_wp2
          go_roundw
          case rel => exact ⟨k + 1, sx, hkn, by go_num, HM3.out, HS.out, by omega⟩
          case measure => simp [intOf]; omega
    · have he : sr = S1 := by
        rw [List.drop_of_length_le (by rw [HEN.out, HE5.out]; omega)] at hS
        exact hS
      have HM1 : Hid (Mach M wr S1) := Lib.hid (by rw [← he]; exact HM2.out)
      have hob1 : S1.o.length ≤ s.o.length + 200 := by rw [← he]; omega
      have hOM1 : MOk M.R S1 := by rw [← HS1'.out]; exact HO.out.relA HRN.out _
      have HOM1 := Lib.hid hOM1
      obtain ⟨S3, hS3⟩ : ∃ x, sigA (t : Int) M.R.sg S1 = x := ⟨_, rfl⟩
      have HS3 : Hid (sigA (t : Int) (M.R.sg.drop 0) S1 = S3) := Lib.hid hS3
      have HS3' := Lib.hid hS3
      have c5 := HM1.out.c5
      have hc5e : M.H.sA = sA ∧ M.H.sN = nS := by
        have h1 := HC5.out
        have h2 := HM.out.c5
        rw [h1] at h2
        simp at h2
        exact ⟨h2.1.symm, h2.2.symm⟩
      rw [hc5e.1, hc5e.2] at c5
      clear hS hS3 he hc5e HM2 hob hOM1
      go_wp2
      go_loopw [66] (fun i wx => ∃ (j : Nat) (sx : Ms), j ≤ nS ∧ i = .int .i64 j ∧ Mach M wx sx ∧ sigA (t : Int) (M.R.sg.drop j) sx = S3 ∧ sx.o.length ≤ s.o.length + 200 + j) (fun i _ => nS - (intOf i).toNat)
      case atStart => exact ⟨0, S1, Nat.zero_le _, rfl, HM1.out, HS3.out, by omega⟩
      case round =>
        clear HS3 HM1 c5
        obtain ⟨j, sx, hj, rfl, hM, hS, hob2⟩ := hrel
        have HM3 := Lib.hid hM
        by_cases hjn : j < nS
        · obtain ⟨hjl, b2, off2, rfl, hb2, d0, d1⟩ := (HSG.out.ext hM.lb).two j hjn
          obtain ⟨⟨x, y⟩, hxy⟩ : ∃ p, M.R.sg[j] = p := ⟨_, rfl⟩
          have hmem : (x, y) ∈ M.R.sg := by rw [← hxy]; exact List.getElem_mem hjl
          have hlim := HRN.out.sg _ hmem
          rw [hxy] at d0 d1
          simp only [] at d0 d1 hlim
          obtain ⟨ix, rfl⟩ := Int.eq_ofNat_of_zero_le hlim.1
          have hixL : ix < M.R.L.length := by omega
          have hixn : ix < nL := by rw [← HNL.out]; exact hixL
          rw [List.drop_eq_getElem_cons hjl, sigA, hxy, sigS] at hS
          simp only [Int.toNat_natCast] at hS
          have HMB : Hid (Mach M (wr.alloc (.cells #[.int .i64 x, .int .i64 (ix : Int)] 26)) sx) := Lib.hid (hM.ext hl (by (repeat' (first | (with_reducible exact Below.refl _ _) | (with_reducible assumption) | (with_reducible refine Below.alloc ?_ ?_ _) | (with_reducible refine Below.drew ?_) | (with_reducible refine Below.draws ?_ _) | (with_reducible refine Below.setCell ?_ ?_ _) | (refine Below.then ?_ (by with_reducible assumption)) | go_size))))
          have HW0 : Hid (Mach M (wr.alloc (.cells #[.int .i64 x, .int .i64 (ix : Int)] 26)) sx) := HMB
          by_cases hxt : x = (t : Int)
          · have hxt' : (x == (t : Int)) = true := by simpa using hxt
            subst hxt
            cases hrd : rdB sx ix
            · rw [if_neg (fun q => q.2 (rdB_no.1 hrd))] at hS
              have HSN := Lib.hid hS; have HRDB := Lib.hid hrd
              clear hM hS hxy hmem hlim hrd
              go_wp2_with (go_at_call 91; (with_reducible refine (ready_is HMB.out hixL HRDB.out).mono ?_); rintro e w6 ⟨rfl, rfl⟩)
              go_roundw
              case rel => exact ⟨j + 1, sx, hjn, by go_num, HMB.out, HSN.out, by omega⟩
              case measure => simp [intOf]; omega
            · rw [if_pos ⟨rfl, rdB_iff.1 hrd⟩] at hS
              have HSN := Lib.hid hS; have HRDB := Lib.hid hrd
              have c8 := hM.c8
              rw [HNL.out] at c8
              have hJz : M.J < wr.heap.size := Nat.lt_of_lt_of_le hl.J.2 hM.kl
              have hpz : M.p < wr.heap.size := Nat.lt_of_lt_of_le hl.p.2 hM.kl
              obtain ⟨_, _, _, j3⟩ := hM.jcells hixL
              have f3 := hM.fj (ix * 4 + 3)
              have hM4 : Mach M ((wr.setCell ⟨M.J, ix * 4 + 3, none⟩ (.bool true)).alloc (.cells #[.int .i64 (t : Int), .int .i64 (ix : Int)] 26)) { sx with j := sx.j.set ix { sx.ja ix with s := true } } := (hM.job hl hixL (j := 3) (by decide) (encJ_s (sx.ja ix) true)).ext hl (by (repeat' (first | (with_reducible exact Below.refl _ _) | (with_reducible assumption) | (with_reducible refine Below.alloc ?_ ?_ _) | (with_reducible refine Below.drew ?_) | (with_reducible refine Below.draws ?_ _) | (with_reducible refine Below.setCell ?_ ?_ _) | (refine Below.then ?_ (by with_reducible assumption)) | go_size)))
              have HM4 := Lib.hid hM4
              have ho4 : ({ sx with j := sx.j.set ix { sx.ja ix with s := true } } : Ms).o.length ≤ 2000000 := by simp only []; omega
              have HO4 := Lib.hid ho4
              clear hM hS hxy hmem hlim hrd hM4 ho4
              go_wp2_with (first
                | (go_at_call 91; (with_reducible refine (ready_is HMB.out hixL HRDB.out).mono ?_); rintro e w6 ⟨rfl, rfl⟩)
                | (go_at_call 62; (with_reducible refine (write_any hl HM4.out HO4.out _ _ _ _ _).mono ?_); rintro e w7 ⟨rfl, hM7⟩; have HM7 := Lib.hid hM7; clear hM7))
              go_roundw
              case rel => exact ⟨j + 1, _, hjn, by go_num, HM7.out, HSN.out, by simp [Ms.wr]; omega⟩
              case measure => simp [intOf]; omega
          · have hxt' : (x == (t : Int)) = false := by simpa using hxt
            rw [if_neg (fun q => hxt q.1)] at hS
            have HSN := Lib.hid hS
            clear hM hS hxy hmem hlim
            go_wp2
            go_roundw
            case rel => exact ⟨j + 1, sx, hjn, by go_num, HMB.out, HSN.out, by omega⟩
            case measure => simp [intOf]; omega
        · have he : sx = S3 := by
            rw [List.drop_of_length_le (by have := HSG.out.length; omega)] at hS
            exact hS
          have HM5 : Hid (Mach M wr S3) := Lib.hid (by rw [← he]; exact HM3.out)
          have hob5 : S3.o.length ≤ s.o.length + 300 := by rw [← he]; omega
          have hOM3 : MOk M.R S3 := by rw [← HS3'.out]; exact MOk.sigA _ _ HOM1.out HRN.out.sg
          have hq3 : ∀ x, (S3.qa x).length ≤ 100 := fun x => by
            have : S3.qa x = S1.qa x := by rw [← HS3'.out]; exact sigA_qa _ _ _
            rw [this, ← HS1'.out]; exact HQN.out x
          have HOM3 := Lib.hid hOM3; have HQ3 := Lib.hid hq3
          obtain ⟨S4, hS4⟩ : ∃ x, endA M.R.L (t : Int) nL 0 S3 = x := ⟨_, rfl⟩
          have HS4 : Hid (endA M.R.L (t : Int) (nL - 0) 0 S3 = S4) := Lib.hid hS4
          have HFIN : Hid (arrA M.R t s = S4) := Lib.hid (by unfold arrA; rw [HS1'.out, HS3'.out, HNL.out]; exact hS4)
          have c0 := HM5.out.c0
          have htn : M.H.tN = nL := by rw [← HNL.out]; exact HR.out.t.length.symm
          rw [htn] at c0
          clear hM hS he hS4 HM3 hob2 hOM3 hq3 htn
          go_wp2
          go_loopw [99] (fun i wx => ∃ (j : Nat) (sx : Ms), j ≤ nL ∧ i = .int .i64 j ∧ Mach M wx sx ∧ MOk M.R sx ∧ (∀ x, (sx.qa x).length ≤ 100) ∧ endA M.R.L (t : Int) (nL - j) j sx = S4 ∧ sx.o.length ≤ s.o.length + 300 + j) (fun i _ => nL - (intOf i).toNat)
          case atStart => exact ⟨0, S3, Nat.zero_le _, rfl, HM5.out, HOM3.out, HQ3.out, HS4.out, by omega⟩
          case round =>
            clear HS4 HM5 c0
            obtain ⟨j, sx, hj, rfl, hM, hOx, hqx, hS, hob6⟩ := hrel
            have HM6 := Lib.hid hM; have HOX := Lib.hid hOx; have HQX := Lib.hid hqx
            by_cases hjn2 : j < nL
            · have hjL : j < M.R.L.length := by rw [HNL.out]; exact hjn2
              rw [show nL - j = (nL - (j + 1)) + 1 by omega, endA, endS] at hS
              cases hrd : rdB sx j
              · rw [if_neg (fun q => q.1 (rdB_no.1 hrd))] at hS
                have HSN := Lib.hid hS; have HRDB := Lib.hid hrd
                clear hM hOx hqx hS hrd
                go_wp2_with (go_at_call 91; (with_reducible refine (ready_is HM6.out hjL HRDB.out).mono ?_); rintro e w6 ⟨rfl, rfl⟩)
                go_roundw
                case rel => exact ⟨j + 1, sx, hjn2, by go_num, HM6.out, HOX.out, HQX.out, HSN.out, by omega⟩
                case measure => simp [intOf]; omega
              · have c8 := hM.c8
                rw [HNL.out] at c8
                obtain ⟨_, _, _, j3⟩ := hM.jcells hjL
                have HRDB := Lib.hid hrd
                have hqne := rdB_iff.1 hrd
                obtain ⟨A, hA⟩ : ∃ A, (sx.ja j).s = A := ⟨_, rfl⟩
                rw [hA] at hS j3
                cases A
                · rw [if_neg (fun q => by have := q.2.1; simp at this)] at hS
                  have HSN := Lib.hid hS
                  clear hM hOx hqx hS hrd hA hqne
                  go_wp2_with (go_at_call 91; (with_reducible refine (ready_is HM6.out hjL HRDB.out).mono ?_); rintro e w6 ⟨rfl, rfl⟩)
                  go_roundw
                  case rel => exact ⟨j + 1, sx, hjn2, by go_num, HM6.out, HOX.out, HQX.out, HSN.out, by omega⟩
                  case measure => simp [intOf]; omega
                · obtain ⟨B, hB⟩ : ∃ B, insB M.R.L sx j = B := ⟨_, rfl⟩
                  rw [hB] at hS
                  have HLK := Lib.hid (locked_is hM HR.out hOx hjL hB)
                  cases B
                  · rw [if_pos ⟨hqne, rfl, rfl⟩] at hS
                    have HSN := Lib.hid hS
                    have HMF : Hid (∀ w1, Below wr.heap.size wr w1 → Calls Try.prog 93 #[.pointer (some ⟨M.p, 0, none⟩), .int .i64 (t : Int), .int .i64 (j : Int), .int .i64 1] w1 fun e w' => e = .returned (.tuple #[]) ∧ Mach M w' (fin1 t j 1 sx)) := Lib.hid (fun w1 h1 => end_any hl (hM.ext hl h1) hjL hqne (hqx j) (by omega) _ _)
                    have HOF := Lib.hid (hOx.fin HRN.out (t : Int) 1 hjL)
                    have HQF : Hid (∀ x, ((fin1 (t : Int) j 1 sx).qa x).length ≤ 100) := Lib.hid (fun x => by
                      rw [fin_qa (by rw [hM.ql]; exact hjL)]
                      split
                      · have := hqx j; rw [List.length_tail]; omega
                      · exact hqx x)
                    clear hM hOx hqx hS hrd hA hqne hB
                    go_wp2_with (first
                      | (go_at_call 91; (with_reducible refine (ready_is HM6.out hjL HRDB.out).mono ?_); rintro e w6 ⟨rfl, rfl⟩)
                      | (go_at_call 92; (with_reducible refine HLK.out.mono ?_); rintro e w7 ⟨rfl, hb7⟩; have B7 := Lib.hid hb7; clear hb7)
                      | (go_at_call 93; (with_reducible refine (HMF.out _ B7.out).mono ?_); rintro e w8 ⟨rfl, hM8⟩; have HM8 := Lib.hid hM8; clear hM8))
                    go_roundw
                    case rel => exact ⟨j + 1, _, hjn2, by go_num, HM8.out, HOF.out, HQF.out, HSN.out, by simp [fin1]; omega⟩
                    case measure => simp [intOf]; omega
                  · rw [if_neg (fun q => by have := q.2.2; simp at this)] at hS
                    have HSN := Lib.hid hS
                    clear hM hOx hqx hS hrd hA hqne hB
                    go_wp2_with (first
                      | (go_at_call 91; (with_reducible refine (ready_is HM6.out hjL HRDB.out).mono ?_); rintro e w6 ⟨rfl, rfl⟩)
                      | (go_at_call 92; (with_reducible refine HLK.out.mono ?_); rintro e w7 ⟨rfl, hb7⟩; have B7 := Lib.hid hb7; clear hb7))
                    go_roundw
                    case rel => exact ⟨j + 1, sx, hjn2, by go_num, HM6.out.ext hl B7.out, HOX.out, HQX.out, HSN.out, by omega⟩
                    case measure => simp [intOf]; omega
            · have hfin : sx = S4 := by rw [show nL - j = 0 by omega] at hS; exact hS
              have HM9 : Hid (Mach M wr S4) := Lib.hid (by rw [← hfin]; exact hM)
              clear hM hOx hqx hS hfin
              go_wp2
              go_end0
              exact ⟨rfl, by rw [HFIN.out]; exact HM9.out⟩
end Go.Proofs.Ytmahagcghpoekaa
namespace Go.Proofs.Ytmahagcghpoekaa
open Go.RowKit
set_option linter.unusedSimpArgs false
set_option linter.unusedVariables false
/-- a block known whole -/
structure Blk (w : World) (b : Nat) (cs : Array Value) : Prop where
  c : ∀ i, w.cell? ⟨b, i, none⟩ = cs[i]?
  f : ∀ i, w.frozen? ⟨b, i, none⟩ = false
  l : b < w.heap.size
theorem Blk.at (w : World) (cs : Array Value) (t : TypeId) (b : Nat) (h : b = w.heap.size) : Blk (w.alloc (.cells cs t)) b cs := by
  subst h
  exact ⟨fun i => World.cell?_alloc_new w cs t i, fun i => World.frozen?_alloc_new w cs t i, by simp⟩
theorem Blk.old {w : World} {b : Nat} {cs : Array Value} (h : Blk w b cs) (o : Obj) : Blk (w.alloc o) b cs :=
  ⟨fun i => (World.cell?_alloc_past o b i h.l).trans (h.c i), fun i => (World.frozen?_alloc_past o b i h.l).trans (h.f i), by have := h.l; simp; omega⟩
theorem Blk.drew {w : World} {b : Nat} {cs : Array Value} (h : Blk w b cs) : Blk w.drew b cs := ⟨h.c, h.f, h.l⟩
theorem made_one (v : Value) (n i : Nat) (h : i < n) : (madeCells #[v] n)[i]? = some v := by simp [madeCells, h, Nat.mod_one]
theorem made_four (a b c d : Value) (n i j : Nat) (h : i < n) (hj : j < 4) : (madeCells #[a, b, c, d] (n * 4))[i * 4 + j]? = [a, b, c, d][j]? := by
  have h1 : i * 4 + j < n * 4 := by omega
  have h2 : (i * 4 + j) % 4 = j := by omega
  simp only [madeCells, Array.getElem?_map, Array.getElem?_range, h1, if_true, Option.map_some]
  have h3 : (#[a, b, c, d] : Array Value).size = 4 := rfl
  rw [h3, h2]
  match j, hj with
  | 0, _ => rfl
  | 1, _ => rfl
  | 2, _ => rfl
  | 3, _ => rfl
theorem mach0 {M : MPar} {w : World} (hK : M.K ≤ w.heap.size) (hO : M.O = List.replicate M.R.L.length 0) (hb : Below M.w0.heap.size M.w0 w)
    (hp : Blk w M.p #[.slice M.H.tA M.H.tN M.H.tC, .int .i64 M.R.fr, .int .i64 M.R.sl, .slice M.H.eA M.H.eN M.H.eC, .slice M.H.bA M.H.bN M.H.bC, .slice M.H.sA M.H.sN M.H.sC, .slice (some ⟨M.rb, 0, none⟩) M.R.L.length M.R.L.length, .slice (some ⟨M.W, 0, none⟩) M.R.L.length M.R.L.length, .slice (some ⟨M.J, 0, none⟩) M.R.L.length M.R.L.length, .slice none 0 0])
    (hW : Blk w M.W (madeCells #[.slice none 0 0] M.R.L.length)) (hJ : Blk w M.J (madeCells #[.int .i64 0, .int .i64 0, .int .i64 0, .bool false] (M.R.L.length * 4))) (hr : Blk w M.rb (madeCells #[.int .i64 0] M.R.L.length)) : Mach M w (ms0 M.R.L.length) := by
  have hja : ∀ i, (ms0 M.R.L.length).ja i = Jb.zero := fun i => by unfold Ms.ja ms0; simp only [List.getElem?_replicate]; split <;> rfl
  have hqa : ∀ i, (ms0 M.R.L.length).qa i = [] := fun i => by unfold Ms.qa ms0; simp only [List.getElem?_replicate]; split <;> rfl
  refine ⟨hp.c 0, hp.c 1, hp.c 2, hp.c 3, hp.c 4, hp.c 5, hp.c 6, hp.c 7, hp.c 8, hp.f, ⟨none, 0, 0, hp.c 9, World.ownsRow_nil _ _ _ _⟩, fun i hi => ⟨0, ?_, ?_⟩, hr.f, ⟨fun _ => ⟨none, 0, 0⟩, fun i hi => ?_, ⟨fun i hi => ?_, fun i j _ _ _ => .inl rfl⟩⟩, hW.f, fun i hi j hj => ?_, hJ.f, hK, by simp [ms0], by simp [ms0], hb⟩
  · rw [hO, List.getElem?_replicate, if_pos hi]
  · rw [hr.c, made_one _ _ _ hi]
  · rw [hW.c, made_one _ _ _ hi]
  · rw [hqa]; exact World.ownsRow_nil _ _ _ _
  · rw [hJ.c, made_four _ _ _ _ _ _ _ hi hj, hja]; rfl
/-- a rank has been laid -/
theorem Mach.rank {M : MPar} {w : World} {s : Ms} (h : Mach M w s) (hl : MLay M) {k : Nat} (hk : k < M.R.L.length) (hO : M.O.length = M.R.L.length) (x : Int) : Mach { M with O := M.O.set k x } (w.setCell ⟨M.rb, k, none⟩ (.int .i64 x)) s := by
  have hkl := h.kl
  obtain ⟨n1, n2, n3, n4, n5, n6⟩ := hl.ne
  have co : ∀ b j, b ≠ M.rb → (w.setCell ⟨M.rb, k, none⟩ (.int .i64 x)).cell? ⟨b, j, none⟩ = w.cell? ⟨b, j, none⟩ := fun b j hb => World.cell?_setCell_other _ _ _ _ (addr_neS (.inl (fun q => hb q.symm)))
  have cp := fun j => co M.p j n3
  refine ⟨(cp 0).trans h.c0, (cp 1).trans h.c1, (cp 2).trans h.c2, (cp 3).trans h.c3, (cp 4).trans h.c4, (cp 5).trans h.c5, (cp 6).trans h.c6, (cp 7).trans h.c7, (cp 8).trans h.c8,
    fun j => by rw [World.frozen?_setCell]; exact h.fp j, ?_, fun i hi => ?_, fun j => by rw [World.frozen?_setCell]; exact h.fr j, ?_, fun j => by rw [World.frozen?_setCell]; exact h.fw j, fun i hi j hj4 => (co M.J _ n6).trans (h.jb i hi j hj4), fun j => by rw [World.frozen?_setCell]; exact h.fj j,
    by simpa using hkl, h.ql, h.jl, h.lb.setCell (p := ⟨M.rb, k, none⟩) hl.r.1 _⟩
  · obtain ⟨a, m, c, g1, g2⟩ := h.en
    exact ⟨a, m, c, (cp 9).trans g1, owns_far g2 hl.r.2 _⟩
  · obtain ⟨y, g1, g2⟩ := h.rk i hi
    by_cases e : i = k
    · subst e
      exact ⟨x, by show (M.O.set i x)[i]? = _; rw [List.getElem?_set, if_pos rfl, if_pos (by rw [hO]; exact hi)], World.cell?_setCell_same _ _ _ g2⟩
    · exact ⟨y, by show (M.O.set k x)[i]? = _; rw [List.getElem?_set, if_neg (fun q => e q.symm)]; exact g1, (World.cell?_setCell_other _ _ _ _ (addr_neS (.inr (fun q => e q.symm)))).trans g2⟩
  · obtain ⟨g, g1, g2⟩ := h.qu
    exact ⟨g, fun i hi => (co M.W i n5).trans (g1 i hi), g2.far hl.r.2 _⟩
theorem make_jobs (n : Nat) (hn : n ≤ 1000) (w : World) : (Instr.makeSlice 110 (.int .i64 (n : Int)) (.int .i64 (n : Int))).run Try.prog w = .ok (.slice (some ⟨w.heap.size, 0, none⟩) n n) (w.alloc (.cells (madeCells #[.int .i64 0, .int .i64 0, .int .i64 0, .bool false] (n * 4)) 137)) := by
  obtain ⟨i, h1, h2, h3, h4⟩ := info_parts (show (Try.prog.info? 137).map (fun i => (i.zero, i.size, i.bytes)) = some (some (.agg #[.int .i64 0, .int .i64 0, .int .i64 0, .bool false]), 4, 32) by kernel_rfl)
  have := run_make (P := Try.prog) w 110 137 i _ Try.underlying110 h1 h2 .i64 .i64 (n : Int) (n : Int) (by omega) (by omega) (by rw [h4]; omega) (by omega)
  rw [this, h3]
  simp [Value.cells]
theorem schRanks_is {a : Option Addr} {n c : Nat} {L : List Ta} {xs : List Int} {y : Int} {w : World} (hL : RdL w a n L) (h : ranksR L = (xs, y)) : Calls Try.prog 15 #[.slice a n c] w (OutTE w.heap.size w xs y) := by
  have := Ranks_any a n c L w hL
  rw [h] at this; exact this
theorem ranks_ok {L : List Ta} (h : Right L) : ranksR L = (rankL L, 0) := by unfold ranksR; rw [right_B h]; rfl
theorem MLay.rank {M : MPar} (h : MLay M) (O : List Int) : MLay { M with O := O } := ⟨h.p, h.W, h.J, h.r, h.ne⟩
set_option maxRecDepth 100000 in
set_option maxHeartbeats 8000000 in
theorem play_any (H : RunH) (R : Rn) (ticks : Nat) (w : World) (hR : RdRun w H R) (hr : RnOk R) (ht : ticks ≤ 2000) :
    Calls Try.prog 33 #[.agg #[.slice H.tA H.tN H.tC, .int .i64 R.fr, .int .i64 R.sl, .slice H.eA H.eN H.eC, .slice H.bA H.bN H.bC, .slice H.sA H.sN H.sC], .int .i64 (ticks : Int)] w fun e w' => ∃ a n c, e = .returned (.slice a n c) ∧ w'.ownsRow w.heap.size 43 5 (.slice a n c) n ((plM R ticks).o.flatMap encE) ∧ Below w.heap.size w w' := by
  have htn := hR.t.length
  have hL5 := hr.r.len
  have HR := Lib.hid hR; have HRN := Lib.hid hr
  obtain ⟨nL, hnL⟩ : ∃ x, R.L.length = x := ⟨_, rfl⟩
  have HNL := Lib.hid hnL
  have htn' : H.tN = nL := by omega
  have hn5 : nL ≤ 5 := by omega
  obtain ⟨fr, hfr⟩ : ∃ x, R.fr = x := ⟨_, rfl⟩
  obtain ⟨sl_, hsl⟩ : ∃ x, R.sl = x := ⟨_, rfl⟩
  rw [htn', hfr, hsl]
  have HFR := Lib.hid hfr; have HSL := Lib.hid hsl; have HTN := Lib.hid htn'
  clear hR hr htn hnL htn' hfr hsl
  go_enter Try.func33, Try.ntmps33
  go_upto_region 2 with fail
  obtain ⟨w1, hw1⟩ : ∃ x, x = w.alloc (.cells #[.slice H.tA nL H.tC, .int .i64 fr, .int .i64 sl_, .slice H.eA H.eN H.eC, .slice H.bA H.bN H.bC, .slice H.sA H.sN H.sC] 32) := ⟨_, rfl⟩
  have hB1 : Blk w1 w.heap.size #[.slice H.tA nL H.tC, .int .i64 fr, .int .i64 sl_, .slice H.eA H.eN H.eC, .slice H.bA H.bN H.bC, .slice H.sA H.sN H.sC] := by rw [hw1]; exact Blk.at _ _ _ _ rfl
  have hb1 : Below w.heap.size w w1 := by rw [hw1]; (repeat' (first | (with_reducible exact Below.refl _ _) | (with_reducible assumption) | (with_reducible refine Below.alloc ?_ ?_ _) | (with_reducible refine Below.drew ?_) | (with_reducible refine Below.draws ?_ _) | (with_reducible refine Below.setCell ?_ ?_ _) | (refine Below.then ?_ (by with_reducible assumption)) | go_size))
  rw [← hw1]
  have r0 := hB1.c 0; have r1 := hB1.c 1; have r2 := hB1.c 2; have r3 := hB1.c 3; have r4 := hB1.c 4; have r5 := hB1.c 5
  simp at r0 r1 r2 r3 r4 r5
  have hmk1 := run_make_row' (P := Try.prog) 29 3 (.int .i64 0) 8 Try.underlying29 (by kernel_rfl) rfl .i64 .i64 nL (by omega) (by omega)
  have hmk2 := run_make_row' (P := Try.prog) 45 29 (.slice none 0 0) 24 Try.underlying45 (by kernel_rfl) rfl .i64 .i64 nL (by omega) (by omega)
  have hmk3 := make_jobs nL (by omega)
  have hq0 := hB1.l
  have hq01 : w.heap.size < w1.heap.size + 1 := by omega
  have hq02 : w.heap.size < w1.heap.size + 1 + 1 := by omega
  have hq03 : w.heap.size < w1.heap.size + 2 := by omega
  have hq04 : w.heap.size < w1.heap.size + 1 + 1 + 1 := by omega
  have hq05 : w.heap.size < w1.heap.size + 3 := by omega
  clear hw1
  go_cut [6] (fun v wx => ∃ p W J rb : Nat, v = .pointer (some ⟨p, 0, none⟩) ∧ Blk wx p #[.slice H.tA nL H.tC, .int .i64 fr, .int .i64 sl_, .slice H.eA H.eN H.eC, .slice H.bA H.bN H.bC, .slice H.sA H.sN H.sC, .slice (some ⟨rb, 0, none⟩) nL nL, .slice (some ⟨W, 0, none⟩) nL nL, .slice (some ⟨J, 0, none⟩) nL nL, .slice none 0 0] ∧
    Blk wx W (madeCells #[.slice none 0 0] nL) ∧ Blk wx J (madeCells #[.int .i64 0, .int .i64 0, .int .i64 0, .bool false] (nL * 4)) ∧ Blk wx rb (madeCells #[.int .i64 0] nL) ∧ w1.heap.size ≤ p ∧ w1.heap.size ≤ W ∧ w1.heap.size ≤ J ∧ w1.heap.size ≤ rb ∧ (p ≠ W ∧ p ≠ J ∧ p ≠ rb ∧ W ≠ J ∧ W ≠ rb ∧ J ≠ rb) ∧ Below w1.heap.size w1 wx)
  case first =>
    go_region
    all_goals
      go_wp2_with fail
      go_meet
      first
        | exact ⟨_, w1.heap.size, w1.heap.size + 1, w1.heap.size + 1 + 1, rfl, (Blk.at _ _ _ _ (by simp)).drew, ((((Blk.at _ _ _ _ rfl).old _).old _).old _).drew, (((Blk.at _ _ _ _ (by simp)).old _).old _).drew, ((Blk.at _ _ _ _ (by simp)).old _).drew, by omega, by omega, by omega, by omega, by omega, by (repeat' (first | (with_reducible exact Below.refl _ _) | (with_reducible assumption) | (with_reducible refine Below.alloc ?_ ?_ _) | (with_reducible refine Below.drew ?_) | (with_reducible refine Below.draws ?_ _) | (with_reducible refine Below.setCell ?_ ?_ _) | (refine Below.then ?_ (by with_reducible assumption)) | go_size))⟩
        | exact ⟨_, w1.heap.size, w1.heap.size + 1 + 1, w1.heap.size + 1, rfl, (Blk.at _ _ _ _ (by simp)).drew, ((((Blk.at _ _ _ _ rfl).old _).old _).old _).drew, ((Blk.at _ _ _ _ (by simp)).old _).drew, (((Blk.at _ _ _ _ (by simp)).old _).old _).drew, by omega, by omega, by omega, by omega, by omega, by (repeat' (first | (with_reducible exact Below.refl _ _) | (with_reducible assumption) | (with_reducible refine Below.alloc ?_ ?_ _) | (with_reducible refine Below.drew ?_) | (with_reducible refine Below.draws ?_ _) | (with_reducible refine Below.setCell ?_ ?_ _) | (refine Below.then ?_ (by with_reducible assumption)) | go_size))⟩
        | exact ⟨_, w1.heap.size + 1, w1.heap.size, w1.heap.size + 1 + 1, rfl, (Blk.at _ _ _ _ (by simp)).drew, (((Blk.at _ _ _ _ (by simp)).old _).old _).drew, ((((Blk.at _ _ _ _ rfl).old _).old _).old _).drew, ((Blk.at _ _ _ _ (by simp)).old _).drew, by omega, by omega, by omega, by omega, by omega, by (repeat' (first | (with_reducible exact Below.refl _ _) | (with_reducible assumption) | (with_reducible refine Below.alloc ?_ ?_ _) | (with_reducible refine Below.drew ?_) | (with_reducible refine Below.draws ?_ _) | (with_reducible refine Below.setCell ?_ ?_ _) | (refine Below.then ?_ (by with_reducible assumption)) | go_size))⟩
        | exact ⟨_, w1.heap.size + 1, w1.heap.size + 1 + 1, w1.heap.size, rfl, (Blk.at _ _ _ _ (by simp)).drew, (((Blk.at _ _ _ _ (by simp)).old _).old _).drew, ((Blk.at _ _ _ _ (by simp)).old _).drew, ((((Blk.at _ _ _ _ rfl).old _).old _).old _).drew, by omega, by omega, by omega, by omega, by omega, by (repeat' (first | (with_reducible exact Below.refl _ _) | (with_reducible assumption) | (with_reducible refine Below.alloc ?_ ?_ _) | (with_reducible refine Below.drew ?_) | (with_reducible refine Below.draws ?_ _) | (with_reducible refine Below.setCell ?_ ?_ _) | (refine Below.then ?_ (by with_reducible assumption)) | go_size))⟩
        | exact ⟨_, w1.heap.size + 1 + 1, w1.heap.size, w1.heap.size + 1, rfl, (Blk.at _ _ _ _ (by simp)).drew, ((Blk.at _ _ _ _ (by simp)).old _).drew, ((((Blk.at _ _ _ _ rfl).old _).old _).old _).drew, (((Blk.at _ _ _ _ (by simp)).old _).old _).drew, by omega, by omega, by omega, by omega, by omega, by (repeat' (first | (with_reducible exact Below.refl _ _) | (with_reducible assumption) | (with_reducible refine Below.alloc ?_ ?_ _) | (with_reducible refine Below.drew ?_) | (with_reducible refine Below.draws ?_ _) | (with_reducible refine Below.setCell ?_ ?_ _) | (refine Below.then ?_ (by with_reducible assumption)) | go_size))⟩
        | exact ⟨_, w1.heap.size + 1 + 1, w1.heap.size + 1, w1.heap.size, rfl, (Blk.at _ _ _ _ (by simp)).drew, ((Blk.at _ _ _ _ (by simp)).old _).drew, (((Blk.at _ _ _ _ (by simp)).old _).old _).drew, ((((Blk.at _ _ _ _ rfl).old _).old _).old _).drew, by omega, by omega, by omega, by omega, by omega, by (repeat' (first | (with_reducible exact Below.refl _ _) | (with_reducible assumption) | (with_reducible refine Below.alloc ?_ ?_ _) | (with_reducible refine Below.drew ?_) | (with_reducible refine Below.draws ?_ _) | (with_reducible refine Below.setCell ?_ ?_ _) | (refine Below.then ?_ (by with_reducible assumption)) | go_size))⟩
  case rest =>
    obtain ⟨p, W, J, rb, rfl, kp, kW, kJ, kr, h1, h2, h3, h4, h5, hb2⟩ := hcut
    obtain ⟨rk, hrk⟩ : ∃ x, rankL R.L = x := ⟨_, rfl⟩
    have HRK : Hid (ranksR R.L = (rk, 0)) := Lib.hid (by rw [← hrk]; exact ranks_ok HRN.out.r)
    have hrl : rk.length = nL := by rw [← hrk, rank_len, HNL.out]
    have hrm : ∀ k ∈ rk, 0 ≤ k ∧ k < nL := fun k hk => by rw [← hrk] at hk; have := rank_mem.1 hk; rw [HNL.out] at this; exact this
    have hos : ofSet 0 (List.replicate nL 0) (rk.drop 0) = ofL R.L := by rw [← hrk, List.drop_zero, ← ofSet_eq, HNL.out]
    clear hq01 hq02 hq03 hq04 hq05
    have hq1 : w.heap.size < wc.heap.size := Nat.lt_of_lt_of_le hq0 hb2.size
    obtain ⟨MO, hMO⟩ : ∃ f : List Int → MPar, f = fun O => (⟨w1, H, R, wc.heap.size, p, W, J, rb, O⟩ : MPar) := ⟨_, rfl⟩
    have hlay : ∀ O, MLay (MO O) := fun O => by rw [hMO]; exact ⟨⟨h1, kp.l⟩, ⟨h2, kW.l⟩, ⟨h3, kJ.l⟩, ⟨h4, kr.l⟩, h5⟩
    have hm0 : Mach (MO (List.replicate nL 0)) wc (plM R 0) := by
      rw [hMO]
      refine mach0 (M := ⟨w1, H, R, wc.heap.size, p, W, J, rb, List.replicate nL 0⟩) (Nat.le_refl _) (by show List.replicate nL 0 = List.replicate R.L.length 0; rw [HNL.out]) hb2 ?_ ?_ ?_ ?_
      · show Blk wc p #[.slice H.tA H.tN H.tC, .int .i64 R.fr, .int .i64 R.sl, .slice H.eA H.eN H.eC, .slice H.bA H.bN H.bC, .slice H.sA H.sN H.sC, .slice (some ⟨rb, 0, none⟩) R.L.length R.L.length, .slice (some ⟨W, 0, none⟩) R.L.length R.L.length, .slice (some ⟨J, 0, none⟩) R.L.length R.L.length, .slice none 0 0]
        rw [HTN.out, HFR.out, HSL.out, HNL.out]; exact kp
      · show Blk wc W (madeCells #[.slice none 0 0] R.L.length)
        rw [HNL.out]; exact kW
      · show Blk wc J (madeCells #[.int .i64 0, .int .i64 0, .int .i64 0, .bool false] (R.L.length * 4))
        rw [HNL.out]; exact kJ
      · show Blk wc rb (madeCells #[.int .i64 0] R.L.length)
        rw [HNL.out]; exact kr
    have HM0 := Lib.hid hm0; have HLAY := Lib.hid hlay; have HMO := Lib.hid hMO; have HRM := Lib.hid hrm; have HOS := Lib.hid hos; have HB1 := Lib.hid hb1; have HRL := Lib.hid hrl
    have HR1 := Lib.hid (HR.out.ext hb1)
    have HTR : Hid (RdL wc H.tA nL R.L) := Lib.hid (by have := (HR.out.t.ext hb1).ext hb2; rw [HTN.out] at this; exact this)
    have s0 := (hb2.cell (p := ⟨w.heap.size, 0, none⟩) hq0).trans r0
    clear hrk hrl hrm hos hMO hlay hm0 kp kW kJ kr h1 h2 h3 h4 h5 hb1 hmk1 hmk2 hmk3 hB1 r0 r3 r4 r5
    go_wp2_with (go_at_call 15; (with_reducible refine (schRanks_is HTR.out HRK.out).mono ?_); rintro e w3 ⟨a3, n3, c3, rfl, hown3, hb3⟩; have HO3 := Lib.hid hown3; have HB3 := Lib.hid hb3; clear hown3 hb3)
    have hn3 : n3 = nL := by rw [← (ownsI_rd HO3.out).length]; exact HRL.out
    subst hn3
    have HM3 := Lib.hid (HM0.out.ext (HLAY.out _) HB3.out)
    go_loopw [33] (fun i wr => ∃ (k : Nat) (O : List Int), k ≤ n3 ∧ i = .int .i64 k ∧ Mach (MO O) wr (plM R 0) ∧ O.length = n3 ∧ ofSet k O (rk.drop k) = ofL R.L ∧ wr.ownsRow wc.heap.size 3 1 (.slice a3 n3 c3) n3 (rk.flatMap enc1)) (fun i _ => n3 - (intOf i).toNat)
    case atStart => exact ⟨0, _, Nat.zero_le _, rfl, HM3.out, by simp, HOS.out, HO3.out⟩
    case round =>
      clear HM3 HO3 HOS HM0
      obtain ⟨k, O, hk, rfl, hM, hOl, hos, hO3⟩ := hrel
      have HMX := Lib.hid hM; have HO3 := Lib.hid hO3
      by_cases hkn : k < n3
      · obtain ⟨x, b3, o3, rfl, hb3, hc3, hx⟩ := (ownsI_rd hO3).idx k hkn
        have hxm := HRM.out x (List.mem_of_getElem? hx)
        obtain ⟨j, rfl⟩ := Int.eq_ofNat_of_zero_le hxm.1
        have hjn : j < n3 := by omega
        have hrd : rk.drop k = (j : Int) :: rk.drop (k + 1) := by obtain ⟨g1, g2⟩ := List.getElem?_eq_some_iff.1 hx; rw [List.drop_eq_getElem_cons g1, g2]
        rw [hrd] at hos
        have hos' := ofSet_step hos
        rw [Int.toNat_natCast] at hos'
        have HOS' := Lib.hid hos'
        have c6 := hM.c6
        rw [HMO.out] at c6
        simp only [] at c6
        rw [HNL.out] at c6
        obtain ⟨y, hy1, hy2⟩ := hM.rk j (by rw [HMO.out]; simp only []; rw [HNL.out]; exact hjn)
        rw [HMO.out] at hy2
        simp only [] at hy2
        have fr6 : wr.frozen? ⟨rb, j, none⟩ = false := by have := hM.fr j; rw [HMO.out] at this; exact this
        have HOL := Lib.hid hOl
        clear hM hO3 hos hos' hrd hx hy1 hxm
        go_wp2
        go_roundw
        case rel =>
          refine ⟨k + 1, O.set j (k : Int), hkn, by go_num, ?_, by simp [HOL.out], HOS'.out, ?_⟩
          · have h9 := HMX.out.rank (HLAY.out O) (k := j) (by rw [HMO.out]; simp only []; rw [HNL.out]; exact hjn) (by rw [HMO.out]; simp only []; rw [HOL.out, HNL.out]) (k : Int)
            rw [HMO.out] at h9 ⊢
            exact h9
          · have hrbK : rb < wc.heap.size := by have := (HLAY.out O).r.2; rw [HMO.out] at this; exact this
            exact owns_far HO3.out hrbK _
        case measure => simp [intOf]; omega
      · have hOf : O = ofL R.L := by
          rw [List.drop_of_length_le (by rw [HRL.out]; omega)] at hos
          exact hos
        obtain ⟨M, hMM⟩ : ∃ M, MO O = M := ⟨_, rfl⟩
        rw [hMM] at HMX
        have hl : MLay M := by rw [← hMM]; exact HLAY.out O
        have hMR : M.R = R := by rw [← hMM, HMO.out]
        have hMH : M.H = H := by rw [← hMM, HMO.out]
        have hMw : M.w0 = w1 := by rw [← hMM, HMO.out]
        have hMp : M.p = p := by rw [← hMM, HMO.out]
        have hMO2 : M.O = ofL M.R.L := by rw [hMR, ← hOf, ← hMM, HMO.out]
        have hRM : RdRun M.w0 M.H M.R := by rw [hMw, hMH, hMR]; exact HR1.out
        have hrM : RnOk M.R := by rw [hMR]; exact HRN.out
        have HL := Lib.hid hl; have HMR := Lib.hid hMR; have HMW := Lib.hid hMw; have HMP := Lib.hid hMp.symm; have HMOF := Lib.hid hMO2; have HRM2 := Lib.hid hRM; have HRNM := Lib.hid hrM
        have hKw : M.K = wc.heap.size := by rw [← hMM, HMO.out]
        have HKW := Lib.hid hKw
        clear hM hO3 hos hOf hMM hl hMR hMH hMw hMp hMO2 hRM hrM hKw
        obtain ⟨PP, hPP⟩ : ∃ x, x = p := ⟨_, rfl⟩
        obtain rfl : p = M.p := HMP.out
        clear hPP
        go_wp2
        go_loopw [47] (fun i wx => ∃ k : Nat, k ≤ ticks ∧ i = .int .i64 k ∧ Mach M wx (plM R k)) (fun i _ => ticks - (intOf i).toNat)
        case atStart => exact ⟨0, Nat.zero_le _, rfl, HMX.out⟩
        case round =>
          clear HMX
          obtain ⟨k, hk, rfl, hM⟩ := hrel
          have HM := Lib.hid hM
          have hmok : MOk M.R (plM R k) := by rw [HMR.out]; exact plM_ok HRN.out k
          by_cases hkt : k < ticks
          · obtain ⟨SA, hSA⟩ : ∃ x, arrA R (k : Int) (plM R k) = x := ⟨_, rfl⟩
            have hko := plM_o HRN.out k
            have HARR : Hid (Calls Try.prog 61 #[.pointer (some ⟨M.p, 0, none⟩), .int .i64 (k : Int)] wr fun e w' => e = .returned (.tuple #[]) ∧ Mach M w' SA) := Lib.hid (by
              have := arrivals_any (t := k) hM HL.out HRM2.out HRNM.out hmok HMOF.out (fun x => by rw [HMR.out]; exact Nat.le_trans (rel_small HRN.out k x) (by omega)) (by omega) (by omega)
              rw [HMR.out, hSA] at this
              exact this)
            have hokA : MOk M.R SA := by rw [← hSA, HMR.out]; exact (plM_ok HRN.out k).arrA HRN.out _
            have hoA : SA.o.length ≤ 1000000 := by rw [← hSA]; have := arrA_o HRN.out (k : Int) (plM R k); omega
            have hqA : ∀ x, (SA.qa x).length ≤ 100 := fun x => by rw [← hSA]; exact Nat.le_trans (arr_small HRN.out k x) (by omega)
            have hdA : ∀ x, (SA.ja x).d ≤ 10000 := fun x => by rw [← hSA]; exact Nat.le_trans (arr_d HRN.out k x) (by omega)
            have hnx : plM R (k + 1) = tckB R (k : Int) SA := by rw [plM, tckA, hSA]
            have hf1 := HRN.out.f
            rw [HFR.out] at hf1
            obtain ⟨f, hf⟩ := Int.eq_ofNat_of_zero_le (show 0 ≤ fr by omega)
            obtain ⟨r, hr2⟩ : ∃ r, k % f = r := ⟨_, rfl⟩
            have hmod : (k : Int) % (f : Int) = (r : Int) := by rw [← hr2]; simp
            have hf0 : (0 : Int) < (f : Int) := by omega
            have hcond : tckB R (k : Int) SA = if (r : Int) < sl_ then SA.wr ⟨k, -1, 3, 0, 0⟩ else if 0 ≤ chM R.L SA then wkA R k (chM R.L SA).toNat SA else SA := by
              unfold tckB; rw [HFR.out, HSL.out, hf, hmod]
            have HOKA := Lib.hid hokA; have HOA := Lib.hid hoA; have HQA := Lib.hid hqA; have HDA := Lib.hid hdA
            have HNX := Lib.hid (hnx.trans hcond)
            have r1' : w1.cell? ⟨w.heap.size, 1, none⟩ = some (.int .i64 (f : Int)) := by rw [r1, hf]
            have HC1 : Hid (∀ wx, Below M.w0.heap.size M.w0 wx → wx.cell? ⟨w.heap.size, 1, none⟩ = some (.int .i64 (f : Int)) ∧ wx.cell? ⟨w.heap.size, 2, none⟩ = some (.int .i64 sl_)) := Lib.hid (fun wx h => by
              rw [HMW.out] at h
              exact ⟨(h.cell (p := ⟨w.heap.size, 1, none⟩) hq0).trans r1', (h.cell (p := ⟨w.heap.size, 2, none⟩) hq0).trans r2⟩)
            clear hM hmok hko hokA hoA hqA hdA hnx hf1 hf hr2 hcond hSA r1'
            by_cases hcol : (r : Int) < sl_
            · have hcol' : decide ((r : Int) < sl_) = true := by simpa using hcol
              have HNX2 : Hid (plM R (k + 1) = SA.wr ⟨k, -1, 3, 0, 0⟩) := Lib.hid (by rw [HNX.out, if_pos hcol])
              go_wp2_with (go_at_call 61; (with_reducible refine HARR.out.mono ?_); rintro e w4 ⟨rfl, hM4⟩; obtain ⟨d1, d2⟩ := HC1.out w4 hM4.lb; have HM4 := Lib.hid hM4; clear hM4)
              go_region
              all_goals
                have HM5 := Lib.hid (HM4.out.ext HL.out (Below.refl w4.heap.size w4).drew)
                go_wp2_with (go_at_call 62; (with_reducible refine (write_any HL.out HM5.out (by have := HOA.out; omega) _ _ _ _ _).mono ?_); rintro e w5 ⟨rfl, hM6⟩; have HM6 := Lib.hid hM6; clear hM6)
                go_roundw
                case rel => exact ⟨k + 1, hkt, by go_num, by rw [HNX2.out]; exact HM6.out⟩
                case measure => simp [intOf]; omega
            · have hcol' : decide ((r : Int) < sl_) = false := by simpa using hcol
              obtain ⟨c, hc⟩ : ∃ c, chM R.L SA = c := ⟨_, rfl⟩
              have HNX2 : Hid (plM R (k + 1) = if 0 ≤ c then wkA R k c.toNat SA else SA) := Lib.hid (by rw [HNX.out, if_neg hcol, hc])
              obtain ⟨g1, g2, g3, g4⟩ := chM_spec R.L SA
              rw [hc] at g1 g2 g3 g4
              have HCH : Hid (∀ wx, Mach M wx SA → Calls Try.prog 63 #[.pointer (some ⟨M.p, 0, none⟩)] wx fun e w' => e = .returned (.int .i64 c) ∧ Below wx.heap.size wx w') := Lib.hid (fun wx h => by
                have := choice_any h HL.out HRM2.out HRNM.out HOKA.out HMOF.out
                rw [HMR.out, hc] at this
                exact this)
              have G4 := Lib.hid g4
              clear g3 g4 hc
              by_cases hc0 : 0 ≤ c
              · obtain ⟨cn, rfl⟩ := Int.eq_ofNat_of_zero_le hc0
                rw [if_pos hc0, Int.toNat_natCast] at HNX2
                have hcL : cn < M.R.L.length := by rw [HMR.out]; omega
                have hne := G4.out hc0
                rw [Int.toNat_natCast] at hne
                have HNE := Lib.hid hne
                have hc0' : decide ((0 : Int) ≤ (cn : Int)) = true := by simp
                clear hne g1 g2
                go_wp2_with (go_at_call 61; (with_reducible refine HARR.out.mono ?_); rintro e w4 ⟨rfl, hM4⟩; obtain ⟨d1, d2⟩ := HC1.out w4 hM4.lb; have HM4 := Lib.hid hM4; clear hM4)
                go_region
                all_goals
                  have HM5 := Lib.hid (HM4.out.ext HL.out (Below.refl w4.heap.size w4).drew)
                  go_wp2_with (first
                    | (go_at_call 63; (with_reducible refine (HCH.out _ HM5.out).mono ?_); rintro e w5 ⟨rfl, hb5⟩; have HM6 := Lib.hid (HM5.out.ext HL.out hb5); clear hb5)
                    | (go_at_call 64; (with_reducible refine (work_any HM6.out HL.out HRM2.out HRNM.out HOKA.out hcL HNE.out (HQA.out cn) HOA.out (by omega) (HDA.out cn)).mono ?_); rintro e w6 ⟨rfl, hM7⟩; have HM7 := Lib.hid hM7; clear hM7))
                  go_roundw
                  case rel => exact ⟨k + 1, hkt, by go_num, by have := HM7.out; rw [HMR.out] at this; rw [HNX2.out]; exact this⟩
                  case measure => simp [intOf]; omega
              · rw [if_neg hc0] at HNX2
                have hcm : c = -1 := by omega
                subst hcm
                clear g1 g2 hc0
                go_wp2_with (go_at_call 61; (with_reducible refine HARR.out.mono ?_); rintro e w4 ⟨rfl, hM4⟩; obtain ⟨d1, d2⟩ := HC1.out w4 hM4.lb; have HM4 := Lib.hid hM4; clear hM4)
                go_region
                all_goals
                  have HM5 := Lib.hid (HM4.out.ext HL.out (Below.refl w4.heap.size w4).drew)
                  go_wp2_with (go_at_call 63; (with_reducible refine (HCH.out _ HM5.out).mono ?_); rintro e w5 ⟨rfl, hb5⟩; have HM6 := Lib.hid (HM5.out.ext HL.out hb5); clear hb5)
                  go_roundw
                  case rel => exact ⟨k + 1, hkt, by go_num, by rw [HNX2.out]; exact HM6.out⟩
                  case measure => simp [intOf]; omega
          · have hke : k = ticks := by omega
            obtain ⟨a9, m9, c9', g9, g10⟩ := hM.en
            have hlb : Below w.heap.size w wr := HB1.out.trans ((show Below w1.heap.size w1 wr by rw [← HMW.out]; exact hM.lb).mono HB1.out.size)
            have G10 : Hid (wr.ownsRow w.heap.size 43 5 (.slice a9 m9 c9') m9 ((plM R ticks).o.flatMap encE)) := Lib.hid (by rw [← hke]; exact owns_mono g10 (by rw [HKW.out]; exact Nat.le_of_lt hq1))
            have HLB := Lib.hid hlb
            clear hM g10 hke hlb hmok
            go_wp2
            go_ret
            exact ⟨_, _, _, rfl, G10.out, HLB.out⟩
end Go.Proofs.Ytmahagcghpoekaa
namespace Go.Proofs.Ytmahagcghpoekaa
open Go.RowKit
set_option linter.unusedSimpArgs false
set_option linter.unusedVariables false
/-- the program's ticks ahead of a moment -/
def aheadS (F S t : Int) : Int := t / F * (F - S) + max (t % F - S) 0
def supB (F S : Int) : Bool := inB F 1 60 && inB S 0 (F - 1)
theorem aheadS_step {F S : Int} (h0 : 0 ≤ S) (h1 : S < F) (t : Nat) : aheadS F S ((t : Int) + 1) = aheadS F S t + (if S ≤ (t : Int) % F then 1 else 0) := by
  unfold aheadS
  have hF : 0 < F := by omega
  have e := Int.emod_add_mul_ediv (t : Int) F
  have hr0 := Int.emod_nonneg (t : Int) (show F ≠ 0 by omega)
  have hr1 := Int.emod_lt_of_pos (t : Int) hF
  by_cases hlast : (t : Int) % F + 1 = F
  · have hd : ((t : Int) + 1) / F = (t : Int) / F + 1 := by
      have : (t : Int) + 1 = F * ((t : Int) / F + 1) := by rw [Int.mul_add]; omega
      rw [this, Int.mul_ediv_cancel_left _ (by omega)]
    have hm : ((t : Int) + 1) % F = 0 := by
      have : (t : Int) + 1 = F * ((t : Int) / F + 1) := by rw [Int.mul_add]; omega
      rw [this]; exact Int.mul_emod_right _ _
    rw [hd, hm, Int.add_mul, if_pos (by omega), Int.one_mul]
    omega
  · have hd : ((t : Int) + 1) / F = (t : Int) / F := by
      have : (t : Int) + 1 = ((t : Int) % F + 1) + F * ((t : Int) / F) := by omega
      rw [this, Int.add_mul_ediv_left _ _ (by omega), Int.ediv_eq_zero_of_lt (by omega) (by omega), Int.zero_add]
    have hm : ((t : Int) + 1) % F = (t : Int) % F + 1 := by
      have e2 := Int.emod_add_mul_ediv ((t : Int) + 1) F
      rw [hd] at e2; omega
    rw [hd, hm]
    split <;> omega
theorem aheadS_zero {F S : Int} (h0 : 0 ≤ S) : aheadS F S 0 = 0 := by unfold aheadS; simp; omega
theorem aheadS_mono {F S : Int} (h0 : 0 ≤ S) (h1 : S < F) (t d : Nat) : aheadS F S t ≤ aheadS F S ((t : Int) + d) ∧ aheadS F S ((t : Int) + d) ≤ aheadS F S t + d := by
  induction d with
  | zero => simp
  | succ d ih =>
    have := aheadS_step h0 h1 (t + d)
    rw [show ((t + d : Nat) : Int) = (t : Int) + d by omega] at this
    rw [show (t : Int) + ((d + 1 : Nat) : Int) = (t : Int) + d + 1 by omega, this]
    split <;> omega
theorem aheadS_bd {F S : Int} (h0 : 0 ≤ S) (h1 : S < F) (t : Nat) : 0 ≤ aheadS F S t ∧ aheadS F S t ≤ t := by
  have := aheadS_mono h0 h1 0 t
  simp [aheadS_zero h0] at this
  simpa using this
theorem aheadS_period {F S : Int} (hF : 0 < F) (t q : Int) : aheadS F S (t + q * F) = aheadS F S t + q * (F - S) := by
  unfold aheadS
  rw [Int.add_mul_ediv_right _ _ (by omega), Int.add_mul_emod_self_right, Int.add_mul]; omega
/-- what lies in a window that begins at k -/
def diffS (F S w : Int) (k : Nat) : Int := aheadS F S ((k : Int) + w) - aheadS F S k
def leastFrom (F S w : Int) : Nat → Nat → Int → Int
  | 0, _, m => m
  | f + 1, k, m => leastFrom F S w f (k + 1) (min m (diffS F S w k))
def leastN (F S w : Int) : Int := leastFrom F S w F.toNat 0 w
theorem leastFrom_le {F S w : Int} : ∀ (f k : Nat) (m : Int), leastFrom F S w f k m ≤ m ∧ ∀ j, k ≤ j → j < k + f → leastFrom F S w f k m ≤ diffS F S w j
  | 0, k, m => ⟨by simp [leastFrom], fun j h1 h2 => by omega⟩
  | f + 1, k, m => by
    obtain ⟨h1, h2⟩ := leastFrom_le (F := F) (S := S) (w := w) f (k + 1) (min m (diffS F S w k))
    rw [leastFrom]
    refine ⟨by omega, fun j hj hjf => ?_⟩
    by_cases e : j = k
    · subst e; omega
    · exact h2 j (by omega) (by omega)
theorem leastFrom_is {F S w : Int} : ∀ (f k : Nat) (m : Int), leastFrom F S w f k m = m ∨ ∃ j, k ≤ j ∧ j < k + f ∧ leastFrom F S w f k m = diffS F S w j
  | 0, k, m => .inl rfl
  | f + 1, k, m => by
    rw [leastFrom]
    rcases leastFrom_is (F := F) (S := S) (w := w) f (k + 1) (min m (diffS F S w k)) with h | ⟨j, h1, h2, h3⟩
    · rw [h]
      by_cases q : m ≤ diffS F S w k
      · left; omega
      · right; exact ⟨k, by omega, by omega, by omega⟩
    · exact .inr ⟨j, by omega, by omega, h3⟩
structure IsLeast (F S w m : Int) : Prop where
  le : ∀ j : Nat, (j : Int) < F → m ≤ diffS F S w j
  is : ∃ j : Nat, (j : Int) < F ∧ m = diffS F S w j
theorem diffS_le {F S : Int} (h0 : 0 ≤ S) (h1 : S < F) (w k : Nat) : 0 ≤ diffS F S w k ∧ diffS F S w k ≤ w := by
  have := aheadS_mono h0 h1 k w
  unfold diffS; omega
theorem isLeast {F S : Int} (h0 : 0 ≤ S) (h1 : S < F) (w : Nat) : IsLeast F S w (leastN F S w) := by
  obtain ⟨h2, h3⟩ := leastFrom_le (F := F) (S := S) (w := w) F.toNat 0 w
  refine ⟨fun j hj => h3 j (by omega) (by omega), ?_⟩
  rcases leastFrom_is (F := F) (S := S) (w := w) F.toNat 0 w with h | ⟨j, _, hj, h⟩
  · refine ⟨0, by omega, ?_⟩
    have h4 := h3 0 (by omega) (by omega)
    have h5 := (diffS_le h0 h1 w 0).2
    unfold leastN; omega
  · exact ⟨j, by omega, h⟩
theorem IsLeast.unique {F S w m m' : Int} (h : IsLeast F S w m) (k : IsLeast F S w m') : m = m' := by
  obtain ⟨j, hj, e⟩ := h.is
  obtain ⟨i, hi, e2⟩ := k.is
  have := h.le i hi
  have := k.le j hj
  omega
/-- as the program looks for it -/
theorem least_from_first {F S : Int} (h0 : 0 ≤ S) (h1 : S < F) (w : Nat) : leastFrom F S w (F.toNat - 1) 1 (diffS F S w 0) = leastN F S w := by
  unfold leastN
  rw [show F.toNat = (F.toNat - 1) + 1 by omega, leastFrom]
  have h5 := (diffS_le h0 h1 w 0).2
  rw [show min (w : Int) (diffS F S w 0) = diffS F S w 0 by omega]
  simp
theorem least_bd {F S : Int} (h0 : 0 ≤ S) (h1 : S < F) (w : Nat) : 0 ≤ leastN F S w ∧ leastN F S w ≤ w := by
  obtain ⟨j, hj, e⟩ := (isLeast h0 h1 w).is
  have := diffS_le h0 h1 w j
  omega
theorem least_succ {F S : Int} (h0 : 0 ≤ S) (h1 : S < F) (w : Nat) : leastN F S w ≤ leastN F S ((w + 1 : Nat) : Int) ∧ leastN F S ((w + 1 : Nat) : Int) ≤ leastN F S w + 1 := by
  have hs : ∀ j : Nat, diffS F S w j ≤ diffS F S ((w + 1 : Nat) : Int) j ∧ diffS F S ((w + 1 : Nat) : Int) j ≤ diffS F S w j + 1 := fun j => by
    have := aheadS_step h0 h1 (j + w)
    rw [show ((j + w : Nat) : Int) + 1 = (j : Int) + ((w + 1 : Nat) : Int) by omega, show ((j + w : Nat) : Int) = (j : Int) + (w : Int) by omega] at this
    unfold diffS
    rw [this]
    split <;> omega
  constructor
  · obtain ⟨j, hj, e⟩ := (isLeast h0 h1 (w + 1)).is
    have := (isLeast h0 h1 w).le j hj
    have := (hs j).1
    omega
  · obtain ⟨j, hj, e⟩ := (isLeast h0 h1 w).is
    have := (isLeast h0 h1 (w + 1)).le j hj
    have := (hs j).2
    omega
theorem least_zero {F S : Int} (h0 : 0 ≤ S) (h1 : S < F) : leastN F S 0 = 0 := by
  have := least_bd h0 h1 0
  simp at this; omega
/-- costs -/
def costP : List P2 → Int
  | [] => 0
  | p :: ps => p.1 + costP ps
def costT (t : Ta) : Int := costP t.pcs
theorem costP_drop {ps : List P2} {k : Nat} {p : P2} (h : ps[k]? = some p) : costP (ps.drop k) = p.1 + costP (ps.drop (k + 1)) := by
  obtain ⟨h1, h2⟩ := List.getElem?_eq_some_iff.1 h
  rw [List.drop_eq_getElem_cons h1, h2, costP]
theorem costP_bd : ∀ (ps : List P2), (∀ p ∈ ps, 1 ≤ p.1 ∧ p.1 ≤ 200) → (ps.length : Int) ≤ costP ps ∧ costP ps ≤ 200 * ps.length
  | [], _ => by simp [costP]
  | p :: ps, h => by
    have h1 := costP_bd ps (fun q hq => h q (by simp [hq]))
    have h2 := h p (by simp)
    rw [costP, List.length_cons]
    omega
theorem costT_bd {L : List Ta} (hv : Right L) {t : Ta} (h : t ∈ L) : 1 ≤ costT t ∧ costT t ≤ 1600 := by
  have := costP_bd t.pcs (fun p hp => (hv.piece t h p hp).1)
  have := hv.pcs t h
  unfold costT; omega
end Go.Proofs.Ytmahagcghpoekaa
namespace Go.Proofs.Ytmahagcghpoekaa
open Go.RowKit
set_option linter.unusedSimpArgs false
set_option linter.unusedVariables false
theorem within_any (n a b : Int) (w : World) : Calls Try.prog 54 #[.int .i64 n, .int .i64 a, .int .i64 b] w fun e w' => e = .returned (.bool (inB n a b)) ∧ w = w' := by
  go_enter Try.func54, Try.ntmps54
  go_wp2
  all_goals (go_ret; exact ⟨ret_bool (by rw [inB_eq]; simp [*]; try omega), rfl⟩)
theorem in_any (n a b : Int) (w : World) : Calls Try.prog 83 #[.int .i64 n, .int .i64 a, .int .i64 b] w fun e w' => e = .returned (.bool (inB n a b)) ∧ w = w' := by
  go_enter Try.func83, Try.ntmps83
  go_wp2
  all_goals (go_ret; exact ⟨ret_bool (by rw [inB_eq]; simp [*]; try omega), rfl⟩)
/-- a pattern, a clock as values -/
abbrev patV (f g j : Int) : Value := .agg #[.int .i64 f, .int .i64 g, .int .i64 j]
def vpat (f g j : Int) : Bool := inB f 0 10000 && inB g 1 10000 && inB j 0 10000
theorem vpat_iff {f g j : Int} : vpat f g j = true ↔ (0 ≤ f ∧ f ≤ 10000) ∧ (1 ≤ g ∧ g ≤ 10000) ∧ (0 ≤ j ∧ j ≤ 10000) := by
  simp [vpat, inB_iff, and_assoc]
theorem valid_any (f g j : Int) (w : World) : Calls Try.prog 56 #[patV f g j] w fun e w' => e = .returned (.bool (vpat f g j)) ∧ Below w.heap.size w w' := by
  go_enter Try.func56, Try.ntmps56
  go_wp2_with (go_at_call 54; refine (within_any _ _ _ _).mono ?_; rintro e w1 ⟨rfl, rfl⟩)
  all_goals (go_ret; exact ⟨ret_bool (by simp [vpat, *]), by (repeat' (first | (with_reducible exact Below.refl _ _) | (with_reducible assumption) | (with_reducible refine Below.alloc ?_ ?_ _) | (with_reducible refine Below.drew ?_) | (with_reducible refine Below.draws ?_ _) | (with_reducible refine Below.setCell ?_ ?_ _) | (refine Below.then ?_ (by with_reducible assumption)) | go_size))⟩)
theorem rvalid_any (f g j : Int) (w : World) : Calls Try.prog 58 #[patV f g j] w fun e w' => e = .returned (.bool (vpat f g j)) ∧ Below w.heap.size w w' := by
  go_enter Try.func58, Try.ntmps58
  go_wp2_with (go_at_call 83; refine (in_any _ _ _ _).mono ?_; rintro e w1 ⟨rfl, rfl⟩)
  all_goals (go_ret; exact ⟨ret_bool (by simp [vpat, *]), by (repeat' (first | (with_reducible exact Below.refl _ _) | (with_reducible assumption) | (with_reducible refine Below.alloc ?_ ?_ _) | (with_reducible refine Below.drew ?_) | (with_reducible refine Below.draws ?_ _) | (with_reducible refine Below.setCell ?_ ?_ _) | (refine Below.then ?_ (by with_reducible assumption)) | go_size))⟩)
def vclk (o n d : Int) : Bool := inB o (-1000000) 1000000 && inB n 1 1000 && inB d 1 1000
theorem vclk_iff {o n d : Int} : vclk o n d = true ↔ (-1000000 ≤ o ∧ o ≤ 1000000) ∧ (1 ≤ n ∧ n ≤ 1000) ∧ (1 ≤ d ∧ d ≤ 1000) := by
  simp [vclk, inB_iff, and_assoc]
theorem validClock_any (f g j : Int) (w : World) : Calls Try.prog 53 #[patV f g j] w fun e w' => e = .returned (.bool (vclk f g j)) ∧ Below w.heap.size w w' := by
  go_enter Try.func53, Try.ntmps53
  go_wp2_with (go_at_call 54; refine (within_any _ _ _ _).mono ?_; rintro e w1 ⟨rfl, rfl⟩)
  all_goals (go_ret; exact ⟨ret_bool (by simp [vclk, *]), by (repeat' (first | (with_reducible exact Below.refl _ _) | (with_reducible assumption) | (with_reducible refine Below.alloc ?_ ?_ _) | (with_reducible refine Below.drew ?_) | (with_reducible refine Below.draws ?_ _) | (with_reducible refine Below.setCell ?_ ?_ _) | (refine Below.then ?_ (by with_reducible assumption)) | go_size))⟩)
def mostN (g j win : Int) : Int := if win = 0 then 0 else (win - 1 + j) / g + 1
theorem quo_bd {a g m : Int} (h0 : 0 ≤ a) (hm : a ≤ m) (hg : 1 ≤ g) : 0 ≤ a / g ∧ a / g ≤ m :=
  ⟨Int.ediv_nonneg h0 (by omega), Int.le_trans (Int.ediv_le_self _ h0) hm⟩
def mostR (f g j win : Int) : Int × Int := if vpat f g j && inB win 0 1000000 then (mostN g j win, 0) else (0, 1)
theorem most_any (f g j win : Int) (w : World) : Calls Try.prog 115 #[patV f g j, .int .i64 win] w fun e w' => e = rP (mostR f g j win) ∧ Below w.heap.size w w' := by
  by_cases h : (vpat f g j && inB win 0 1000000) = true
  · rw [mostR, if_pos h]
    obtain ⟨h1, h2⟩ := Bool.and_eq_true_iff.1 h
    obtain ⟨k1, k2, k3⟩ := vpat_iff.1 h1
    obtain ⟨k4, k5⟩ := inB_iff.1 h2
    clear h
    by_cases hz : win = 0
    · subst hz
      go_enter Try.func115, Try.ntmps115
      go_wp2_with (first | (go_at_call 54; refine (within_any _ _ _ _).mono ?_; rintro e w1 ⟨rfl, rfl⟩) | (go_at_call 56; refine (valid_any _ _ _ _).mono ?_; rintro e w1 ⟨rfl, hb1⟩; obtain ⟨hc1, hf1, hz1, hr1⟩ := bfacts hb1; (try simp only [World.size_alloc, World.size_setCell, World.size_drew, World.size_drewN] at hz1 hr1); (try have hw0 : w.heap.size < w1.heap.size := by omega); (try have hw1 : w.heap.size + 1 < w1.heap.size := by omega); (try have hw2 : w.heap.size + 1 + 1 < w1.heap.size := by omega)))
      go_ret2
      exact ⟨rII_eq (by simp [mostN]) rfl, by (repeat' (first | (with_reducible exact Below.refl _ _) | (with_reducible assumption) | (with_reducible refine Below.alloc ?_ ?_ _) | (with_reducible refine Below.drew ?_) | (with_reducible refine Below.draws ?_ _) | (with_reducible refine Below.setCell ?_ ?_ _) | (refine Below.then ?_ (by with_reducible assumption)) | go_size))⟩
    · have hz' : (win == 0) = false := by simpa using hz
      obtain ⟨q1, q2⟩ := quo_bd (a := win - 1 + j) (g := g) (m := 1010000) (by omega) (by omega) (by omega)
      have hp : 0 ≤ win - 1 + j := by omega
      go_enter Try.func115, Try.ntmps115
      go_wp2_with (first | (go_at_call 54; refine (within_any _ _ _ _).mono ?_; rintro e w1 ⟨rfl, rfl⟩) | (go_at_call 56; refine (valid_any _ _ _ _).mono ?_; rintro e w1 ⟨rfl, hb1⟩; obtain ⟨hc1, hf1, hz1, hr1⟩ := bfacts hb1; (try simp only [World.size_alloc, World.size_setCell, World.size_drew, World.size_drewN] at hz1 hr1); (try have hw0 : w.heap.size < w1.heap.size := by omega); (try have hw1 : w.heap.size + 1 < w1.heap.size := by omega); (try have hw2 : w.heap.size + 1 + 1 < w1.heap.size := by omega)))
      go_ret2
      exact ⟨rII_eq (by simp [mostN, hz]) rfl, by (repeat' (first | (with_reducible exact Below.refl _ _) | (with_reducible assumption) | (with_reducible refine Below.alloc ?_ ?_ _) | (with_reducible refine Below.drew ?_) | (with_reducible refine Below.draws ?_ _) | (with_reducible refine Below.setCell ?_ ?_ _) | (refine Below.then ?_ (by with_reducible assumption)) | go_size))⟩
  · rw [mostR, if_neg h]
    have H := Lib.hid h; clear h
    go_enter Try.func115, Try.ntmps115
    go_wp2_with (first | (go_at_call 54; refine (within_any _ _ _ _).mono ?_; rintro e w1 ⟨rfl, rfl⟩) | (go_at_call 56; refine (valid_any _ _ _ _).mono ?_; rintro e w1 ⟨rfl, hb1⟩; obtain ⟨hc1, hf1, hz1, hr1⟩ := bfacts hb1; (try simp only [World.size_alloc, World.size_setCell, World.size_drew, World.size_drewN] at hz1 hr1); (try have hw0 : w.heap.size < w1.heap.size := by omega); (try have hw1 : w.heap.size + 1 < w1.heap.size := by omega); (try have hw2 : w.heap.size + 1 + 1 < w1.heap.size := by omega)))
    all_goals first | (exfalso; have := H.out; simp_all; done) | (go_ret2; exact ⟨rII_eq rfl rfl, by (repeat' (first | (with_reducible exact Below.refl _ _) | (with_reducible assumption) | (with_reducible refine Below.alloc ?_ ?_ _) | (with_reducible refine Below.drew ?_) | (with_reducible refine Below.draws ?_ _) | (with_reducible refine Below.setCell ?_ ?_ _) | (refine Below.then ?_ (by with_reducible assumption)) | go_size))⟩)
end Go.Proofs.Ytmahagcghpoekaa
namespace Go.Proofs.Ytmahagcghpoekaa
open Go.RowKit
set_option linter.unusedSimpArgs false
set_option linter.unusedVariables false
def patB (t : Ta) : Bool := vpat t.first t.gap t.jit && (decide (1 ≤ t.dl) && decide (t.dl ≤ t.gap))
def validL (L : List Ta) : Bool := rightB L && L.all patB
structure ValidT (L : List Ta) : Prop where
  r : Right L
  rb : rightB L = true
  first : ∀ t ∈ L, 0 ≤ t.first ∧ t.first ≤ 10000
  gap : ∀ t ∈ L, 1 ≤ t.gap ∧ t.gap ≤ 10000
  jit : ∀ t ∈ L, 0 ≤ t.jit ∧ t.jit ≤ 10000
  dl : ∀ t ∈ L, 1 ≤ t.dl ∧ t.dl ≤ t.gap
  vp : ∀ t ∈ L, vpat t.first t.gap t.jit = true
theorem patB_iff {t : Ta} : patB t = true ↔ vpat t.first t.gap t.jit = true ∧ 1 ≤ t.dl ∧ t.dl ≤ t.gap := by
  simp [patB, Bool.and_eq_true]
theorem valid_of {L : List Ta} (h : validL L = true) : ValidT L := by
  unfold validL at h
  rw [Bool.and_eq_true, List.all_eq_true] at h
  have hp := fun t ht => patB_iff.1 (h.2 t ht)
  have hv := fun t ht => vpat_iff.1 (hp t ht).1
  exact ⟨right_of h.1, h.1, fun t ht => (hv t ht).1, fun t ht => (hv t ht).2.1, fun t ht => (hv t ht).2.2, fun t ht => (hp t ht).2, fun t ht => (hp t ht).1⟩
/-- what task j demands in a window -/
def demT (t : Ta) (w : Int) : Int := mostN t.gap t.jit w * costT t
def demL (L : List Ta) (w : Int) (ks : List Int) (n : Int) : Int := ks.foldl (fun n k => n + demT (taAt L k) w) n
def aheadL (L : List Ta) (i : Int) : List Int := (idxs L.length).filter (fun j => aheadB L j i)
def ownN (L : List Ta) (i : Int) : Int := costT (taAt L i) + blockN L i
def demN (L : List Ta) (i w : Int) : Int := demL L w (aheadL L i) (ownN L i)
theorem demL_perm {L : List Ta} {w : Int} {ks js : List Int} (h : ks.Perm js) (n : Int) : demL L w ks n = demL L w js n :=
  h.foldl_eq' (fun x _ y _ z => by omega) n
theorem filter_take {R : Int → Int → Prop} {f : Int → Bool} {l : List Int} {p : Nat} {x : Int} (hl : l.Pairwise R) (has : ∀ a b, R a b → ¬ R b a) (hx : l[p]? = some x) (hf : ∀ y, f y = true ↔ R y x) : l.filter f = l.take p := by
  obtain ⟨hp, e⟩ := List.getElem?_eq_some_iff.1 hx
  have hs : l = l.take p ++ x :: l.drop (p + 1) := by
    have := List.take_append_drop p l
    rw [List.drop_eq_getElem_cons hp, e] at this; exact this.symm
  have hl2 := hl
  rw [hs] at hl2
  obtain ⟨h1, h2, h3⟩ := List.pairwise_append.1 hl2
  have hirr : f x = false := by
    cases q : f x with
    | false => rfl
    | true => exact absurd ((hf x).1 q) (has x x ((hf x).1 q))
  have e1 : (l.take p).filter f = l.take p := List.filter_eq_self.2 (fun y hy => (hf y).2 (h3 y hy x (by simp)))
  have e2 : (l.drop (p + 1)).filter f = [] := List.filter_eq_nil_iff.2 (fun y hy h => has x y ((List.pairwise_cons.1 h2).1 y hy) ((hf y).1 h))
  calc l.filter f = (l.take p ++ x :: l.drop (p + 1)).filter f := by rw [← hs]
    _ = l.take p := by rw [List.filter_append, List.filter_cons_of_neg (by simp [hirr]), e1, e2, List.append_nil]
/-- those ahead are the first of the ranks -/
theorem take_ahead {L : List Ta} {i : Int} (h0 : 0 ≤ i) (h1 : i < L.length) : ((rankL L).take (cnt L i)).Perm (aheadL L i) := by
  rw [← filter_take (rank_pw L) ahead_asym (rank_at h0 h1) (f := fun j => aheadB L j i) (fun y => aheadB_iff)]
  exact (rank_perm L).filter _
theorem demN_take {L : List Ta} {i w : Int} (h0 : 0 ≤ i) (h1 : i < L.length) : demL L w ((rankL L).take (cnt L i)) (ownN L i) = demN L i w := demL_perm (take_ahead h0 h1) _
theorem mostN_mono {g j w v : Int} (hg : 1 ≤ g) (hj : 0 ≤ j) (h0 : 0 ≤ w) (h : w ≤ v) : 0 ≤ mostN g j w ∧ mostN g j w ≤ mostN g j v := by
  unfold mostN
  by_cases hw : w = 0
  · rw [if_pos hw]
    split
    · omega
    · have := Int.ediv_nonneg (a := v - 1 + j) (b := g) (by omega) (by omega)
      omega
  · rw [if_neg hw, if_neg (by omega)]
    have h1 := Int.ediv_nonneg (a := w - 1 + j) (b := g) (by omega) (by omega)
    have h2 := Int.ediv_le_ediv (a := w - 1 + j) (b := v - 1 + j) (c := g) (by omega) (by omega)
    omega
theorem mostN_bd {g j w : Int} (hg : 1 ≤ g) (hj : 0 ≤ j ∧ j ≤ 10000) (h0 : 0 ≤ w ∧ w ≤ 1000000) : 0 ≤ mostN g j w ∧ mostN g j w ≤ 1010001 := by
  unfold mostN
  split
  · omega
  · have := quo_bd (a := w - 1 + j) (g := g) (m := 1010000) (by omega) (by omega) hg
    omega
theorem aheadL_mem {L : List Ta} {i k : Int} : k ∈ aheadL L i ↔ (0 ≤ k ∧ k < L.length) ∧ aheadB L k i = true := by
  unfold aheadL; rw [List.mem_filter, idxs_mem]
theorem taAt_mem' {L : List Ta} {k : Int} (h0 : 0 ≤ k) (h1 : k < L.length) : taAt L k ∈ L := by
  obtain ⟨j, rfl⟩ := Int.eq_ofNat_of_zero_le h0
  rw [taAt_of (List.getElem?_eq_getElem (by omega))]; exact List.getElem_mem (by omega)
theorem demT_bd {L : List Ta} (hv : ValidT L) {t : Ta} (ht : t ∈ L) {w : Int} (h0 : 0 ≤ w ∧ w ≤ 1000000) : 0 ≤ demT t w ∧ demT t w ≤ 1616001600 := by
  have h1 := mostN_bd (hv.gap t ht).1 (hv.jit t ht) h0
  have h2 := costT_bd hv.r ht
  unfold demT
  constructor
  · exact Int.mul_nonneg h1.1 (by omega)
  · have := Int.mul_le_mul h1.2 h2.2 (by omega) (by omega)
    omega
theorem demT_mono {L : List Ta} (hv : ValidT L) {t : Ta} (ht : t ∈ L) {w v : Int} (h0 : 0 ≤ w) (h : w ≤ v) : demT t w ≤ demT t v := by
  have h1 := mostN_mono (hv.gap t ht).1 (hv.jit t ht).1 h0 h
  have h2 := costT_bd hv.r ht
  unfold demT
  exact Int.mul_le_mul_of_nonneg_right h1.2 (by omega)
theorem demL_le {L : List Ta} {w v : Int} : ∀ (ks : List Int) (n m : Int), n ≤ m → (∀ k ∈ ks, demT (taAt L k) w ≤ demT (taAt L k) v) → demL L w ks n ≤ demL L v ks m
  | [], n, m, h, _ => h
  | k :: ks, n, m, h, hk => by
    have h1 := hk k (by simp)
    refine demL_le ks _ _ ?_ (fun j hj => hk j (by simp [hj]))
    show n + demT (taAt L k) w ≤ m + demT (taAt L k) v
    omega
theorem demN_mono {L : List Ta} (hv : ValidT L) {i w v : Int} (h0 : 0 ≤ w) (h : w ≤ v) : demN L i w ≤ demN L i v :=
  demL_le _ _ _ (Int.le_refl _) (fun k hk => demT_mono hv (taAt_mem' (aheadL_mem.1 hk).1.1 (aheadL_mem.1 hk).1.2) h0 h)
theorem demL_bd {L : List Ta} (hv : ValidT L) {w : Int} (h0 : 0 ≤ w ∧ w ≤ 1000000) : ∀ (ks : List Int) (n : Int), (∀ k ∈ ks, 0 ≤ k ∧ k < L.length) → n ≤ demL L w ks n ∧ demL L w ks n ≤ n + 1616001600 * ks.length
  | [], n, _ => by simp [demL]
  | k :: ks, n, hk => by
    have h1 := hk k (by simp)
    have h2 := demT_bd hv (taAt_mem' h1.1 h1.2) h0
    have h3 := demL_bd hv h0 ks (n + demT (taAt L k) w) (fun j hj => hk j (by simp [hj]))
    have e : demL L w (k :: ks) n = demL L w ks (n + demT (taAt L k) w) := rfl
    rw [e, List.length_cons]
    omega
theorem blockN_bd {L : List Ta} (hv : Right L) (t : Int) : 0 ≤ blockN L t ∧ blockN L t ≤ 200 := by
  have key : ∀ (bs : List P2) (m : Int), (∀ b ∈ bs, IsBlk L t b) → 0 ≤ m ∧ m ≤ 200 → 0 ≤ bs.foldl (fun m b => max m (ticksAt L b)) m ∧ bs.foldl (fun m b => max m (ticksAt L b)) m ≤ 200 := by
    intro bs
    induction bs with
    | nil => intro m _ h; exact h
    | cons b bs ih =>
      intro m hb h
      have h1 := hb b (by simp)
      have h2 : 1 ≤ ticksAt L b ∧ ticksAt L b ≤ 200 := by
        have hm := taAt_mem' h1.j0 h1.j1
        have hk := h1.k1
        have hk0 := h1.k0
        have e : (taAt L b.1).pcs[b.2.toNat]? = some ((taAt L b.1).pcs[b.2.toNat]'(by omega)) := List.getElem?_eq_getElem (by omega)
        have := (hv.piece _ hm _ (List.mem_of_getElem? e)).1
        rw [ticksAt, e]; exact this
      refine ih _ (fun c hc => hb c (by simp [hc])) ?_
      show 0 ≤ max m (ticksAt L b) ∧ max m (ticksAt L b) ≤ 200
      omega
  exact key _ 0 (fun b hb => blockL_mem hb) (by omega)
theorem ownN_bd {L : List Ta} (hv : Right L) {i : Int} (h0 : 0 ≤ i) (h1 : i < L.length) : 1 ≤ ownN L i ∧ ownN L i ≤ 1800 := by
  have := blockN_bd hv i
  have := costT_bd hv (taAt_mem' h0 h1)
  unfold ownN; omega
/-- the first window whose Least is enough; 0 without one -/
def winFrom (L : List Ta) (F S i : Int) : Nat → Nat → Int
  | 0, _ => 0
  | f + 1, w => if demN L i w ≤ leastN F S w then (w : Int) else winFrom L F S i f (w + 1)
def winN (L : List Ta) (F S i : Int) : Int := winFrom L F S i 2000 1
theorem winFrom_step {L : List Ta} {F S i : Int} {f w : Nat} : winFrom L F S i (f + 1) w = if demN L i w ≤ leastN F S w then (w : Int) else winFrom L F S i f (w + 1) := rfl
structure IsWin (L : List Ta) (F S i : Int) (f w : Nat) (x : Int) : Prop where
  none_ : x = 0 → ∀ v : Nat, w ≤ v → v < w + f → ¬ demN L i v ≤ leastN F S v
  some_ : x ≠ 0 → ∃ y : Nat, x = y ∧ w ≤ y ∧ y < w + f ∧ demN L i y ≤ leastN F S y ∧ ∀ v : Nat, w ≤ v → v < y → ¬ demN L i v ≤ leastN F S v
theorem isWinFrom {L : List Ta} {F S i : Int} : ∀ (f w : Nat), 1 ≤ w → IsWin L F S i f w (winFrom L F S i f w)
  | 0, w, _ => ⟨fun _ v h1 h2 => by omega, fun h => by simp [winFrom] at h⟩
  | f + 1, w, hw => by
    rw [winFrom_step]
    split
    · rename_i h
      exact ⟨fun e => by omega, fun _ => ⟨w, rfl, Nat.le_refl _, by omega, h, fun v h1 h2 => by omega⟩⟩
    · rename_i h
      obtain ⟨h1, h2⟩ := isWinFrom (L := L) (F := F) (S := S) (i := i) f (w + 1) (by omega)
      refine ⟨fun e v hv hvf => ?_, fun e => ?_⟩
      · by_cases q : v = w
        · subst q; exact h
        · exact h1 e v (by omega) (by omega)
      · obtain ⟨y, hy, k1, k2, k3, k4⟩ := h2 e
        refine ⟨y, hy, by omega, by omega, k3, fun v hv hvy => ?_⟩
        by_cases q : v = w
        · subst q; exact h
        · exact k4 v (by omega) hvy
theorem isWin (L : List Ta) (F S i : Int) : IsWin L F S i 2000 1 (winN L F S i) := isWinFrom 2000 1 (Nat.le_refl _)
theorem winN_bd (L : List Ta) (F S i : Int) : 0 ≤ winN L F S i ∧ winN L F S i ≤ 2000 := by
  by_cases h : winN L F S i = 0
  · omega
  · obtain ⟨y, hy, h1, h2, _⟩ := (isWin L F S i).some_ h
    omega
/-- task i has a response that is at most its deadline -/
def meetB (L : List Ta) (F S i : Int) : Bool := decide (0 < winN L F S i) && decide ((taAt L i).jit + winN L F S i ≤ (taAt L i).dl)
def accFrom (L : List Ta) (F S : Int) : Nat → Nat → Bool
  | 0, _ => true
  | f + 1, i => meetB L F S i && accFrom L F S f (i + 1)
def accB (L : List Ta) (F S : Int) : Bool := accFrom L F S L.length 0
theorem accFrom_iff {L : List Ta} {F S : Int} : ∀ (f i : Nat), accFrom L F S f i = true ↔ ∀ j : Nat, i ≤ j → j < i + f → meetB L F S j = true
  | 0, i => by simp [accFrom]; intro j h1 h2; omega
  | f + 1, i => by
    rw [accFrom, Bool.and_eq_true, accFrom_iff f (i + 1)]
    constructor
    · rintro ⟨h1, h2⟩ j hj hjf
      by_cases e : j = i
      · subst e; exact h1
      · exact h2 j (by omega) (by omega)
    · intro h
      exact ⟨h i (Nat.le_refl _) (by omega), fun j h1 h2 => h j (by omega) (by omega)⟩
theorem accB_iff {L : List Ta} {F S : Int} : accB L F S = true ↔ ∀ j : Nat, j < L.length → meetB L F S j = true := by
  unfold accB; rw [accFrom_iff]
  constructor
  · intro h j hj; exact h j (Nat.zero_le _) (by omega)
  · intro h j _ hj; exact h j (by omega)
end Go.Proofs.Ytmahagcghpoekaa
namespace Go.Proofs.Ytmahagcghpoekaa
open Go.RowKit
set_option linter.unusedSimpArgs false
set_option linter.unusedVariables false
theorem swithin_any (n a b : Int) (w : World) : Calls Try.prog 35 #[.int .i64 n, .int .i64 a, .int .i64 b] w fun e w' => e = .returned (.bool (inB n a b)) ∧ w = w' := by
  go_enter Try.func35, Try.ntmps35
  go_wp2
  all_goals (go_ret; exact ⟨ret_bool (by rw [inB_eq]; simp [*]; try omega), rfl⟩)
theorem sin_any (n a b : Int) (w : World) : Calls Try.prog 59 #[.int .i64 n, .int .i64 a, .int .i64 b] w fun e w' => e = .returned (.bool (inB n a b)) ∧ w = w' := by
  go_enter Try.func59, Try.ntmps59
  go_wp2
  all_goals (go_ret; exact ⟨ret_bool (by rw [inB_eq]; simp [*]; try omega), rfl⟩)
theorem swithin_is {n a b : Int} {x : Bool} {w : World} (h : inB n a b = x) : Calls Try.prog 35 #[.int .i64 n, .int .i64 a, .int .i64 b] w fun e w' => e = .returned (.bool x) ∧ w = w' := by subst h; exact swithin_any n a b w
theorem sin_is {n a b : Int} {x : Bool} {w : World} (h : inB n a b = x) : Calls Try.prog 59 #[.int .i64 n, .int .i64 a, .int .i64 b] w fun e w' => e = .returned (.bool x) ∧ w = w' := by subst h; exact sin_any n a b w
theorem supB_iff {F S : Int} : supB F S = true ↔ (1 ≤ F ∧ F ≤ 60) ∧ (0 ≤ S ∧ S ≤ F - 1) := by unfold supB; rw [Bool.and_eq_true, inB_iff, inB_iff]
theorem supV_any (F S : Int) (w : World) : Calls Try.prog 34 #[.agg #[.int .i64 F, .int .i64 S]] w fun e w' => e = .returned (.bool (supB F S)) ∧ Below w.heap.size w w' := by
  obtain ⟨x, hx⟩ : ∃ x, inB F 1 60 = x := ⟨_, rfl⟩
  have HX := Lib.hid hx
  unfold supB
  rw [hx]
  cases x
  · clear hx
    go_enter Try.func34, Try.ntmps34
    go_wp2_with (go_at_call 35; refine (swithin_is HX.out).mono ?_; rintro e w1 ⟨rfl, rfl⟩)
    go_ret
    exact ⟨rfl, by (repeat' (first | (with_reducible exact Below.refl _ _) | (with_reducible assumption) | (with_reducible refine Below.alloc ?_ ?_ _) | (with_reducible refine Below.drew ?_) | (with_reducible refine Below.draws ?_ _) | (with_reducible refine Below.setCell ?_ ?_ _) | (refine Below.then ?_ (by with_reducible assumption)) | go_size))⟩
  · obtain ⟨y, hy⟩ : ∃ y, inB S 0 (F - 1) = y := ⟨_, rfl⟩
    have HY := Lib.hid hy
    rw [hy]
    have hF := inB_iff.1 hx
    clear hx hy
    go_enter Try.func34, Try.ntmps34
    go_wp2_with (first | (go_at_call 35; (with_reducible refine (swithin_is HX.out).mono ?_); rintro e w1 ⟨rfl, rfl⟩) | (go_at_call 35; (with_reducible refine (swithin_is HY.out).mono ?_); rintro e w1 ⟨rfl, rfl⟩))
    go_ret
    exact ⟨rfl, by (repeat' (first | (with_reducible exact Below.refl _ _) | (with_reducible assumption) | (with_reducible refine Below.alloc ?_ ?_ _) | (with_reducible refine Below.drew ?_) | (with_reducible refine Below.draws ?_ _) | (with_reducible refine Below.setCell ?_ ?_ _) | (refine Below.then ?_ (by with_reducible assumption)) | go_size))⟩
theorem rsupV_any (F S : Int) (w : World) : Calls Try.prog 30 #[.agg #[.int .i64 F, .int .i64 S]] w fun e w' => e = .returned (.bool (supB F S)) ∧ Below w.heap.size w w' := by
  obtain ⟨x, hx⟩ : ∃ x, inB F 1 60 = x := ⟨_, rfl⟩
  have HX := Lib.hid hx
  unfold supB
  rw [hx]
  cases x
  · clear hx
    go_enter Try.func30, Try.ntmps30
    go_wp2_with (go_at_call 59; refine (sin_is HX.out).mono ?_; rintro e w1 ⟨rfl, rfl⟩)
    go_ret
    exact ⟨rfl, by (repeat' (first | (with_reducible exact Below.refl _ _) | (with_reducible assumption) | (with_reducible refine Below.alloc ?_ ?_ _) | (with_reducible refine Below.drew ?_) | (with_reducible refine Below.draws ?_ _) | (with_reducible refine Below.setCell ?_ ?_ _) | (refine Below.then ?_ (by with_reducible assumption)) | go_size))⟩
  · obtain ⟨y, hy⟩ : ∃ y, inB S 0 (F - 1) = y := ⟨_, rfl⟩
    have HY := Lib.hid hy
    rw [hy]
    have hF := inB_iff.1 hx
    clear hx hy
    go_enter Try.func30, Try.ntmps30
    go_wp2_with (first | (go_at_call 59; (with_reducible refine (sin_is HX.out).mono ?_); rintro e w1 ⟨rfl, rfl⟩) | (go_at_call 59; (with_reducible refine (sin_is HY.out).mono ?_); rintro e w1 ⟨rfl, rfl⟩))
    go_ret
    exact ⟨rfl, by (repeat' (first | (with_reducible exact Below.refl _ _) | (with_reducible assumption) | (with_reducible refine Below.alloc ?_ ?_ _) | (with_reducible refine Below.drew ?_) | (with_reducible refine Below.draws ?_ _) | (with_reducible refine Below.setCell ?_ ?_ _) | (refine Below.then ?_ (by with_reducible assumption)) | go_size))⟩
theorem supV_is {F S : Int} {b : Bool} {w : World} (h : supB F S = b) : Calls Try.prog 34 #[.agg #[.int .i64 F, .int .i64 S]] w fun e w' => e = .returned (.bool b) ∧ Below w.heap.size w w' := by subst h; exact supV_any F S w
theorem rsupV_is {F S : Int} {b : Bool} {w : World} (h : supB F S = b) : Calls Try.prog 30 #[.agg #[.int .i64 F, .int .i64 S]] w fun e w' => e = .returned (.bool b) ∧ Below w.heap.size w w' := by subst h; exact rsupV_any F S w
end Go.Proofs.Ytmahagcghpoekaa
