/- The contract of the machine's arrivals. The conditions: the machine reads as named. -/
import Derived.Test.YtlhnhmimhpcoaaaScW2
import Derived.Test.YtlhnhmimhpcoaaaScW3
import Derived.Deep.RegionLaw
import Derived.Deep.RegionHeldLaw
import Derived.IntWalk
namespace Go.Proofs.Ytlhnhmimhpcoaaa
open Go.RowKit
set_option linter.unusedSimpArgs false
set_option linter.unusedVariables false
theorem push_step {M : MPar} {wr wb w1 : World} {s : Ms} {i : Nat} {g : Nat → Hdr} {a' : Option Addr} {c' : Nat} {x : Int} (hM : Mach M wr s) (hl : MLay M) (hi : i < M.R.L.length) (g1 : ∀ k, k < M.R.L.length → wr.cell? ⟨M.W, k, none⟩ = some (sl (g k))) (g2 : IRows M.K wr M.R.L.length g s.qa)
    (hbb : Below wr.heap.size wr wb) (hown : w1.ownsRow M.K 3 1 (.slice a' ((g i).n + 1) c') ((g i).n + 1) ((s.qa i ++ [x]).flatMap enc1)) (hg : wb.grownBy w1 (sl (g i)).ownBlock)
    (hb : (Value.slice a' ((g i).n + 1) c').ownBlock = (sl (g i)).ownBlock ∨ (Value.slice a' ((g i).n + 1) c').ownBlock = some wb.heap.size) :
    w1.cell? ⟨M.p, 7, none⟩ = some (.slice (some ⟨M.W, 0, none⟩) M.R.L.length M.R.L.length) ∧ w1.cell? ⟨M.W, i, none⟩ = some (sl (g i)) ∧ w1.frozen? ⟨M.W, i, none⟩ = false ∧
    Hid (Mach M (w1.setCell ⟨M.W, i, none⟩ (.slice a' ((g i).n + 1) c')) { s with q := s.q.set i (s.qa i ++ [x]) }) := by
  have hk := hM.kl
  have hMb := hM.ext hl hbb
  have hkb := hMb.kl
  have g2b := g2.ext hbb
  have hWz : M.W < wr.heap.size := Nat.lt_of_lt_of_le hl.W.2 hk
  have g1b : ∀ k, k < M.R.L.length → wb.cell? ⟨M.W, k, none⟩ = some (sl (g k)) := fun k hk => (hbb.cell (p := ⟨M.W, k, none⟩) hWz).trans (g1 k hk)
  have hbK : Below M.K wb w1 := grown_below (g2b.own i hi) hg hkb
  have hp2 := hbK.cell (p := ⟨M.p, 7, none⟩) hl.p.2
  refine ⟨hp2.trans hMb.c7, (hbK.cell (p := ⟨M.W, i, none⟩) hl.W.2).trans (g1b i hi), (hbK.frozen (p := ⟨M.W, i, none⟩) hl.W.2).trans (hMb.fw i), Lib.hid ?_⟩
  exact hMb.queue hl hi hbK (fun a m c h => owns_kept h (g2b.own i hi) (by decide) hg) g1b (d := ⟨a', (g i).n + 1, c'⟩) (g2b.push hi hown hg hb)
theorem relA_drop {t : Int} {k : Nat} {evs : List (List P2)} {s : Ms} (h : k < evs.length) : relA t k (evs.drop k) s = relA t (k + 1) (evs.drop (k + 1)) (relE t k 0 (evAt evs k) s) := by
  rw [List.drop_eq_getElem_cons h, relA]
  unfold evAt; rw [List.getElem?_eq_getElem h]; rfl
theorem sigA_qa (t : Int) : ∀ (gs : List P2) (s : Ms) {x : Nat}, (sigA t gs s).qa x = s.qa x
  | [], s, x => rfl
  | g :: gs, s, x => by
    rw [sigA, sigA_qa t gs]
    unfold Ms.qa; rw [sigS_spec.1]
set_option maxRecDepth 100000 in
set_option maxHeartbeats 8000000 in
theorem arrivals_any {M : MPar} {w : World} {s : Ms} {t : Nat} (hM : Mach M w s) (hl : MLay M) (hR : RdRun M.w0 M.H M.R) (hr : RnOk M.R) (hO : MOk M.R s) (hOf : M.O = ofL M.R.L) (hqn : ∀ x, ((relA t 0 M.R.ev s).qa x).length ≤ 100) (ho : s.o.length ≤ 1000000) (ht : t ≤ 10000) :
    Calls Try.prog 77 #[.pointer (some ⟨M.p, 0, none⟩), .int .i64 t] w fun e w' => e = .returned (.tuple #[]) ∧ Mach M w' (arrA M.R t s) := by
  have c3 := hM.c3
  have c5 := hM.c5
  have e1 := E1
  have HM := Lib.hid hM; have HR := Lib.hid hR; have HRN := Lib.hid hr; have HO := Lib.hid hO; have HQN := Lib.hid hqn
  have hen := hR.e.len
  have hen2 := hr.ev
  have HEN := Lib.hid hen
  have hL5 := hr.r.len
  obtain ⟨nL, hnL⟩ : ∃ x, M.R.L.length = x := ⟨_, rfl⟩
  have HNL := Lib.hid hnL
  have hE5 : M.H.eN = nL := by omega
  have hn5 : nL ≤ 5 := by omega
  rw [hE5] at c3
  obtain ⟨eA, heA⟩ : ∃ x, M.H.eA = x := ⟨_, rfl⟩
  rw [heA] at c3
  have HEA := Lib.hid heA
  clear heA
  obtain ⟨sA, hsA⟩ : ∃ x, M.H.sA = x := ⟨_, rfl⟩
  obtain ⟨nS, hnS⟩ : ∃ x, M.H.sN = x := ⟨_, rfl⟩
  rw [hsA, hnS] at c5
  have HSG : Hid (Rd M.w0 sA nS 2 (M.R.sg.map enc2)) := Lib.hid (by rw [← hsA, ← hnS]; exact hR.s)
  have hnS40 : nS ≤ 40 := by rw [← HSG.out.length]; exact hr.sl
  clear hsA hnS
  have HC5 := Lib.hid c5
  have HC0 := Lib.hid hM.c0
  clear c5
  obtain ⟨S1, hS1⟩ : ∃ x, relA (t : Int) 0 M.R.ev s = x := ⟨_, rfl⟩
  have HS1 : Hid (relA (t : Int) 0 (M.R.ev.drop 0) s = S1) := Lib.hid hS1
  have HS1' := Lib.hid hS1
  have HE5 := Lib.hid hE5
  clear hM hR hr hO hqn hen hnL hS1 hen2 hE5
  go_enter Try.func77, Try.ntmps77
  go_wp2
  go_loopw [18] (fun i wr => ∃ (k : Nat) (sr : Ms), k ≤ nL ∧ i = .int .i64 k ∧ Mach M wr sr ∧ relA (t : Int) k (M.R.ev.drop k) sr = S1 ∧ sr.o.length ≤ s.o.length + 40 * k) (fun i _ => nL - (intOf i).toNat)
  case atStart => exact ⟨0, s, Nat.zero_le _, rfl, HM.out, HS1.out, by omega⟩
  case round =>
    clear HS1
    obtain ⟨k, sr, hk, rfl, hM, hS, hob⟩ := hrel
    have HM2 := Lib.hid hM
    clear hM
    by_cases hkn : k < nL
    · have hkE : k < M.H.eN := by rw [HE5.out]; exact hkn
      have hkL : k < M.R.L.length := by rw [HNL.out]; exact hkn
      have hkev : k < M.R.ev.length := by rw [HEN.out]; exact hkE
      obtain ⟨b, off, ea, en, ec, hea, hb, hc, hRd⟩ := HR.out.e.at_ k hkE
      have hc' := (HM2.out.lb.cell (p := ⟨b, off + k, none⟩) hb).trans hc
      have hel := HRN.out.el (evAt M.R.ev k) (by unfold evAt; rw [List.getElem?_eq_getElem hkev]; exact List.getElem_mem hkev)
      have hen40 : en ≤ 40 := by rw [← hRd.length]; exact hel.1
      rw [relA_drop hkev] at hS
      obtain ⟨es, hes⟩ : ∃ x, evAt M.R.ev k = x := ⟨_, rfl⟩
      rw [hes] at hS hRd hel
      have HRD := Lib.hid hRd
      have HEL := Lib.hid hel.2
      obtain ⟨S2, hS2⟩ : ∃ x, relE (t : Int) k 0 es sr = x := ⟨_, rfl⟩
      rw [hS2] at hS
      have hS2l : S2.q.length = M.R.L.length ∧ ∀ x, (sr.qa x).length ≤ (S2.qa x).length := by
        rw [← hS2, relE_eq _ _ _ _ _ (by rw [HM2.out.ql]; exact hkL)]
        refine ⟨by simpa using HM2.out.ql, fun x => ?_⟩
        rw [qa_set (q := sr.q) (by rw [HM2.out.ql]; exact hkL)]
        split
        · rename_i e; subst e; simp
        · exact Nat.le_refl _
      have HB2 : Hid (∀ x, (S2.qa x).length ≤ 100) := Lib.hid (fun x => by
        have h1 := HQN.out x
        rw [HS1'.out, ← hS, (relA_spec (t : Int) (M.R.ev.drop (k + 1)) (k + 1) S2 (by rw [hS2l.1, List.length_drop, HNL.out, HEN.out, HE5.out]; omega)).2.2 x, List.length_append] at h1
        omega)
      have HS := Lib.hid hS
      have HS2 : Hid (relE (t : Int) k 0 (es.drop 0) sr = S2) := Lib.hid hS2
      obtain rfl : eA = some ⟨b, off, none⟩ := HEA.out.symm.trans hea
      clear hS hS2 hes hRd hel hc hS2l hea
      go_wp2
      go_loopw [25] (fun i wx => ∃ (j : Nat) (sx : Ms), j ≤ en ∧ i = .int .i64 j ∧ Mach M wx sx ∧ relE (t : Int) k j (es.drop j) sx = S2 ∧ sx.o.length ≤ s.o.length + 40 * k + j) (fun i _ => en - (intOf i).toNat)
      case atStart => exact ⟨0, sr, Nat.zero_le _, rfl, HM2.out, HS2.out, by omega⟩
      case round =>
        clear HS2 HM2 hc'
        obtain ⟨j, sx, hj, rfl, hM, hS, hob2⟩ := hrel
        have HM3 := Lib.hid hM
        have hqk : (sx.qa k).length ≤ 100 := by
          have h1 := HB2.out k
          rw [← hS, relE_eq _ _ _ _ _ (by rw [hM.ql]; exact hkL), qa_self (by rw [hM.ql]; exact hkL), List.length_append] at h1
          omega
        have HQK := Lib.hid hqk
        by_cases hjn : j < en
        · have hRx := HRD.out.ext hM.lb
          obtain ⟨hjl, b2, off2, rfl, hb2, d0, d1⟩ := hRx.two j hjn
          obtain ⟨⟨x, y⟩, hxy⟩ : ∃ p, es[j] = p := ⟨_, rfl⟩
          have hmem : (x, y) ∈ es := by rw [← hxy]; exact List.getElem_mem hjl
          have hlim := HEL.out _ hmem
          rw [hxy] at d0 d1
          simp only [] at d0 d1 hlim
          rw [List.drop_eq_getElem_cons hjl, relE, hxy] at hS
          simp only [] at hS
          have wx : IntKind.i64.wrap (x + y) = x + y := IntWalk.i64_in _ (by omega)
          by_cases hxt : x + y = (t : Int)
          · have hxt' : (x + y == (t : Int)) = true := by simpa using hxt
            rw [if_pos hxt] at hS
            have HSN := Lib.hid hS
            have HMB : Hid (Mach M (wr.alloc (.cells #[.int .i64 x, .int .i64 y] 44)) sx) := Lib.hid (hM.ext hl (by (repeat' (first | (with_reducible exact Below.refl _ _) | (with_reducible assumption) | (with_reducible refine Below.alloc ?_ ?_ _) | (with_reducible refine Below.drew ?_) | (with_reducible refine Below.draws ?_ _) | (with_reducible refine Below.setCell ?_ ?_ _) | (refine Below.then ?_ (by with_reducible assumption)) | go_size))))
            clear hM hS hRx hxy hmem hlim
            go_wp2_with (go_at_call 78; (with_reducible refine (write_any hl HMB.out (by omega) _ _ _ _ _).mono ?_); rintro e w6 ⟨rfl, hM6⟩; have HM6 := Lib.hid hM6; clear hM6)
            obtain ⟨s6, hs6⟩ : ∃ z, z = sx.wr ⟨(t : Int), (k : Int), 1, (j : Int), 0⟩ := ⟨_, rfl⟩
            rw [← hs6] at HM6
            obtain ⟨g, g1, g2⟩ := HM6.out.qu
            have q7 := HM6.out.c7
            have qW := g1 k hkL
            unfold sl at qW
            have G1 := Lib.hid g1; have G2 := Lib.hid g2
            have hWz : M.W < w6.heap.size := Nat.lt_of_lt_of_le hl.W.2 HM6.out.kl
            have hpz : M.p < w6.heap.size := Nat.lt_of_lt_of_le hl.p.2 HM6.out.kl
            have hfW := HM6.out.fw k
            have hKl := HM6.out.kl
            have hgn : (g k).n ≤ 1000 := by
              rw [← g2.len hkL]
              have : s6.qa k = sx.qa k := by rw [hs6]; rfl
              rw [this]; omega
            have HS6 := Lib.hid hs6
            clear g1 g2 hs6
            rw [HNL.out] at q7
            go_wp2_with fail
            go_region_law ((refine step_app2 (by rfl) _ _ _ (by rfl) e1 (B := M.K) (news := [.int .i64 (j : Int)]) (by rfl) (by exact (G2.out.ext (by (repeat' (first | (with_reducible exact Below.refl _ _) | (with_reducible assumption) | (with_reducible refine Below.alloc ?_ ?_ _) | (with_reducible refine Below.drew ?_) | (with_reducible refine Below.draws ?_ _) | (with_reducible refine Below.setCell ?_ ?_ _) | (refine Below.then ?_ (by with_reducible assumption)) | go_size)))).own k hkL) (by rfl) (by rfl) (by exact World.news_of_block (heap_alloc_new _ _)) (by intro u hu; simp at hu; rcases hu with rfl; rfl) (by omega) (by omega) (by decide) (by simp; omega) ?_; intro a1 c1 w7 hown1 hg1 hb1; obtain ⟨p7, pW, pf, HX⟩ := push_step HM6.out hl hkL G1.out G2.out (by (repeat' (first | (with_reducible exact Below.refl _ _) | (with_reducible assumption) | (with_reducible refine Below.alloc ?_ ?_ _) | (with_reducible refine Below.drew ?_) | (with_reducible refine Below.draws ?_ _) | (with_reducible refine Below.setCell ?_ ?_ _) | (refine Below.then ?_ (by with_reducible assumption)) | go_size))) (ownsI_snoc hown1) hg1 hb1; rw [HNL.out] at p7; clear hown1 hg1 hb1))
            all_goals
              go_wp2_with fail
              go_roundw
              case rel => exact ⟨j + 1, _, hjn, by go_num, HX.out, by rw [HS6.out]; exact HSN.out, by rw [HS6.out]; simp [Ms.wr]; omega⟩
              case measure => simp [intOf]; omega
          · have hxt' : (x + y == (t : Int)) = false := by simpa using hxt
            rw [if_neg hxt] at hS
            have HSN := Lib.hid hS
            have HMB : Hid (Mach M (wr.alloc (.cells #[.int .i64 x, .int .i64 y] 44)) sx) := Lib.hid (hM.ext hl (by (repeat' (first | (with_reducible exact Below.refl _ _) | (with_reducible assumption) | (with_reducible refine Below.alloc ?_ ?_ _) | (with_reducible refine Below.drew ?_) | (with_reducible refine Below.draws ?_ _) | (with_reducible refine Below.setCell ?_ ?_ _) | (refine Below.then ?_ (by with_reducible assumption)) | go_size))))
            clear hM hS hRx hxy hmem hlim
            go_wp2
            go_roundw
            case rel => exact ⟨j + 1, sx, hjn, by go_num, HMB.out, HSN.out, by omega⟩
            case measure => simp [intOf]; omega
        · have he : sx = S2 := by
            rw [List.drop_of_length_le (by have := HRD.out.length; omega)] at hS
            exact hS
          subst he
          clear hM hS
          go_wp2
          go_roundw
          case rel => exact ⟨k + 1, sx, hkn, by go_num, HM3.out, HS.out, by omega⟩
          case measure => simp [intOf]; omega
    · have he : sr = S1 := by
        rw [List.drop_of_length_le (by rw [HEN.out, HE5.out]; omega)] at hS
        exact hS
      have HM1 : Hid (Mach M wr S1) := Lib.hid (by rw [← he]; exact HM2.out)
      have hob1 : S1.o.length ≤ s.o.length + 200 := by rw [← he]; omega
      have hOM1 : MOk M.R S1 := by rw [← HS1'.out]; exact HO.out.relA HRN.out _
      have HOM1 := Lib.hid hOM1
      obtain ⟨S3, hS3⟩ : ∃ x, sigA (t : Int) M.R.sg S1 = x := ⟨_, rfl⟩
      have HS3 : Hid (sigA (t : Int) (M.R.sg.drop 0) S1 = S3) := Lib.hid hS3
      have HS3' := Lib.hid hS3
      have c5 := HM1.out.c5
      have hc5e : M.H.sA = sA ∧ M.H.sN = nS := by
        have h1 := HC5.out
        have h2 := HM.out.c5
        rw [h1] at h2
        simp at h2
        exact ⟨h2.1.symm, h2.2.symm⟩
      rw [hc5e.1, hc5e.2] at c5
      clear hS hS3 he hc5e HM2 hob hOM1
      go_wp2
      go_loopw [66] (fun i wx => ∃ (j : Nat) (sx : Ms), j ≤ nS ∧ i = .int .i64 j ∧ Mach M wx sx ∧ sigA (t : Int) (M.R.sg.drop j) sx = S3 ∧ sx.o.length ≤ s.o.length + 200 + j) (fun i _ => nS - (intOf i).toNat)
      case atStart => exact ⟨0, S1, Nat.zero_le _, rfl, HM1.out, HS3.out, by omega⟩
      case round =>
        clear HS3 HM1 c5
        obtain ⟨j, sx, hj, rfl, hM, hS, hob2⟩ := hrel
        have HM3 := Lib.hid hM
        by_cases hjn : j < nS
        · obtain ⟨hjl, b2, off2, rfl, hb2, d0, d1⟩ := (HSG.out.ext hM.lb).two j hjn
          obtain ⟨⟨x, y⟩, hxy⟩ : ∃ p, M.R.sg[j] = p := ⟨_, rfl⟩
          have hmem : (x, y) ∈ M.R.sg := by rw [← hxy]; exact List.getElem_mem hjl
          have hlim := HRN.out.sg _ hmem
          rw [hxy] at d0 d1
          simp only [] at d0 d1 hlim
          obtain ⟨ix, rfl⟩ := Int.eq_ofNat_of_zero_le hlim.1
          have hixL : ix < M.R.L.length := by omega
          have hixn : ix < nL := by rw [← HNL.out]; exact hixL
          rw [List.drop_eq_getElem_cons hjl, sigA, hxy, sigS] at hS
          simp only [Int.toNat_natCast] at hS
          have HMB : Hid (Mach M (wr.alloc (.cells #[.int .i64 x, .int .i64 (ix : Int)] 44)) sx) := Lib.hid (hM.ext hl (by (repeat' (first | (with_reducible exact Below.refl _ _) | (with_reducible assumption) | (with_reducible refine Below.alloc ?_ ?_ _) | (with_reducible refine Below.drew ?_) | (with_reducible refine Below.draws ?_ _) | (with_reducible refine Below.setCell ?_ ?_ _) | (refine Below.then ?_ (by with_reducible assumption)) | go_size))))
          have HW0 : Hid (Mach M (wr.alloc (.cells #[.int .i64 x, .int .i64 (ix : Int)] 44)) sx) := HMB
          by_cases hxt : x = (t : Int)
          · have hxt' : (x == (t : Int)) = true := by simpa using hxt
            subst hxt
            cases hrd : rdB sx ix
            · rw [if_neg (fun q => q.2 (rdB_no.1 hrd))] at hS
              have HSN := Lib.hid hS; have HRDB := Lib.hid hrd
              clear hM hS hxy hmem hlim hrd
              go_wp2_with (go_at_call 107; (with_reducible refine (ready_is HMB.out hixL HRDB.out).mono ?_); rintro e w6 ⟨rfl, rfl⟩)
              go_roundw
              case rel => exact ⟨j + 1, sx, hjn, by go_num, HMB.out, HSN.out, by omega⟩
              case measure => simp [intOf]; omega
            · rw [if_pos ⟨rfl, rdB_iff.1 hrd⟩] at hS
              have HSN := Lib.hid hS; have HRDB := Lib.hid hrd
              have c8 := hM.c8
              rw [HNL.out] at c8
              have hJz : M.J < wr.heap.size := Nat.lt_of_lt_of_le hl.J.2 hM.kl
              have hpz : M.p < wr.heap.size := Nat.lt_of_lt_of_le hl.p.2 hM.kl
              obtain ⟨_, _, _, j3⟩ := hM.jcells hixL
              have f3 := hM.fj (ix * 4 + 3)
              have hM4 : Mach M ((wr.setCell ⟨M.J, ix * 4 + 3, none⟩ (.bool true)).alloc (.cells #[.int .i64 (t : Int), .int .i64 (ix : Int)] 44)) { sx with j := sx.j.set ix { sx.ja ix with s := true } } := (hM.job hl hixL (j := 3) (by decide) (encJ_s (sx.ja ix) true)).ext hl (by (repeat' (first | (with_reducible exact Below.refl _ _) | (with_reducible assumption) | (with_reducible refine Below.alloc ?_ ?_ _) | (with_reducible refine Below.drew ?_) | (with_reducible refine Below.draws ?_ _) | (with_reducible refine Below.setCell ?_ ?_ _) | (refine Below.then ?_ (by with_reducible assumption)) | go_size)))
              have HM4 := Lib.hid hM4
              have ho4 : ({ sx with j := sx.j.set ix { sx.ja ix with s := true } } : Ms).o.length ≤ 2000000 := by simp only []; omega
              have HO4 := Lib.hid ho4
              clear hM hS hxy hmem hlim hrd hM4 ho4
              go_wp2_with (first
                | (go_at_call 107; (with_reducible refine (ready_is HMB.out hixL HRDB.out).mono ?_); rintro e w6 ⟨rfl, rfl⟩)
                | (go_at_call 78; (with_reducible refine (write_any hl HM4.out HO4.out _ _ _ _ _).mono ?_); rintro e w7 ⟨rfl, hM7⟩; have HM7 := Lib.hid hM7; clear hM7))
              go_roundw
              case rel => exact ⟨j + 1, _, hjn, by go_num, HM7.out, HSN.out, by simp [Ms.wr]; omega⟩
              case measure => simp [intOf]; omega
          · have hxt' : (x == (t : Int)) = false := by simpa using hxt
            rw [if_neg (fun q => hxt q.1)] at hS
            have HSN := Lib.hid hS
            clear hM hS hxy hmem hlim
            go_wp2
            go_roundw
            case rel => exact ⟨j + 1, sx, hjn, by go_num, HMB.out, HSN.out, by omega⟩
            case measure => simp [intOf]; omega
        · have he : sx = S3 := by
            rw [List.drop_of_length_le (by have := HSG.out.length; omega)] at hS
            exact hS
          have HM5 : Hid (Mach M wr S3) := Lib.hid (by rw [← he]; exact HM3.out)
          have hob5 : S3.o.length ≤ s.o.length + 300 := by rw [← he]; omega
          have hOM3 : MOk M.R S3 := by rw [← HS3'.out]; exact MOk.sigA _ _ HOM1.out HRN.out.sg
          have hq3 : ∀ x, (S3.qa x).length ≤ 100 := fun x => by
            have : S3.qa x = S1.qa x := by rw [← HS3'.out]; exact sigA_qa _ _ _
            rw [this, ← HS1'.out]; exact HQN.out x
          have HOM3 := Lib.hid hOM3; have HQ3 := Lib.hid hq3
          obtain ⟨S4, hS4⟩ : ∃ x, endA M.R.L (t : Int) nL 0 S3 = x := ⟨_, rfl⟩
          have HS4 : Hid (endA M.R.L (t : Int) (nL - 0) 0 S3 = S4) := Lib.hid hS4
          have HFIN : Hid (arrA M.R t s = S4) := Lib.hid (by unfold arrA; rw [HS1'.out, HS3'.out, HNL.out]; exact hS4)
          have c0 := HM5.out.c0
          have htn : M.H.tN = nL := by rw [← HNL.out]; exact HR.out.t.length.symm
          rw [htn] at c0
          clear hM hS he hS4 HM3 hob2 hOM3 hq3 htn
          go_wp2
          go_loopw [99] (fun i wx => ∃ (j : Nat) (sx : Ms), j ≤ nL ∧ i = .int .i64 j ∧ Mach M wx sx ∧ MOk M.R sx ∧ (∀ x, (sx.qa x).length ≤ 100) ∧ endA M.R.L (t : Int) (nL - j) j sx = S4 ∧ sx.o.length ≤ s.o.length + 300 + j) (fun i _ => nL - (intOf i).toNat)
          case atStart => exact ⟨0, S3, Nat.zero_le _, rfl, HM5.out, HOM3.out, HQ3.out, HS4.out, by omega⟩
          case round =>
            clear HS4 HM5 c0
            obtain ⟨j, sx, hj, rfl, hM, hOx, hqx, hS, hob6⟩ := hrel
            have HM6 := Lib.hid hM; have HOX := Lib.hid hOx; have HQX := Lib.hid hqx
            by_cases hjn2 : j < nL
            · have hjL : j < M.R.L.length := by rw [HNL.out]; exact hjn2
              rw [show nL - j = (nL - (j + 1)) + 1 by omega, endA, endS] at hS
              cases hrd : rdB sx j
              · rw [if_neg (fun q => q.1 (rdB_no.1 hrd))] at hS
                have HSN := Lib.hid hS; have HRDB := Lib.hid hrd
                clear hM hOx hqx hS hrd
                go_wp2_with (go_at_call 107; (with_reducible refine (ready_is HM6.out hjL HRDB.out).mono ?_); rintro e w6 ⟨rfl, rfl⟩)
                go_roundw
                case rel => exact ⟨j + 1, sx, hjn2, by go_num, HM6.out, HOX.out, HQX.out, HSN.out, by omega⟩
                case measure => simp [intOf]; omega
              · have c8 := hM.c8
                rw [HNL.out] at c8
                obtain ⟨_, _, _, j3⟩ := hM.jcells hjL
                have HRDB := Lib.hid hrd
                have hqne := rdB_iff.1 hrd
                obtain ⟨A, hA⟩ : ∃ A, (sx.ja j).s = A := ⟨_, rfl⟩
                rw [hA] at hS j3
                cases A
                · rw [if_neg (fun q => by have := q.2.1; simp at this)] at hS
                  have HSN := Lib.hid hS
                  clear hM hOx hqx hS hrd hA hqne
                  go_wp2_with (go_at_call 107; (with_reducible refine (ready_is HM6.out hjL HRDB.out).mono ?_); rintro e w6 ⟨rfl, rfl⟩)
                  go_roundw
                  case rel => exact ⟨j + 1, sx, hjn2, by go_num, HM6.out, HOX.out, HQX.out, HSN.out, by omega⟩
                  case measure => simp [intOf]; omega
                · obtain ⟨B, hB⟩ : ∃ B, insB M.R.L sx j = B := ⟨_, rfl⟩
                  rw [hB] at hS
                  have HLK := Lib.hid (locked_is hM HR.out hOx hjL hB)
                  cases B
                  · rw [if_pos ⟨hqne, rfl, rfl⟩] at hS
                    have HSN := Lib.hid hS
                    have HMF : Hid (∀ w1, Below wr.heap.size wr w1 → Calls Try.prog 109 #[.pointer (some ⟨M.p, 0, none⟩), .int .i64 (t : Int), .int .i64 (j : Int), .int .i64 1] w1 fun e w' => e = .returned (.tuple #[]) ∧ Mach M w' (fin1 t j 1 sx)) := Lib.hid (fun w1 h1 => end_any hl (hM.ext hl h1) hjL hqne (hqx j) (by omega) _ _)
                    have HOF := Lib.hid (hOx.fin HRN.out (t : Int) 1 hjL)
                    have HQF : Hid (∀ x, ((fin1 (t : Int) j 1 sx).qa x).length ≤ 100) := Lib.hid (fun x => by
                      rw [fin_qa (by rw [hM.ql]; exact hjL)]
                      split
                      · have := hqx j; rw [List.length_tail]; omega
                      · exact hqx x)
                    clear hM hOx hqx hS hrd hA hqne hB
                    go_wp2_with (first
                      | (go_at_call 107; (with_reducible refine (ready_is HM6.out hjL HRDB.out).mono ?_); rintro e w6 ⟨rfl, rfl⟩)
                      | (go_at_call 108; (with_reducible refine HLK.out.mono ?_); rintro e w7 ⟨rfl, hb7⟩; have B7 := Lib.hid hb7; clear hb7)
                      | (go_at_call 109; (with_reducible refine (HMF.out _ B7.out).mono ?_); rintro e w8 ⟨rfl, hM8⟩; have HM8 := Lib.hid hM8; clear hM8))
                    go_roundw
                    case rel => exact ⟨j + 1, _, hjn2, by go_num, HM8.out, HOF.out, HQF.out, HSN.out, by simp [fin1]; omega⟩
                    case measure => simp [intOf]; omega
                  · rw [if_neg (fun q => by have := q.2.2; simp at this)] at hS
                    have HSN := Lib.hid hS
                    clear hM hOx hqx hS hrd hA hqne hB
                    go_wp2_with (first
                      | (go_at_call 107; (with_reducible refine (ready_is HM6.out hjL HRDB.out).mono ?_); rintro e w6 ⟨rfl, rfl⟩)
                      | (go_at_call 108; (with_reducible refine HLK.out.mono ?_); rintro e w7 ⟨rfl, hb7⟩; have B7 := Lib.hid hb7; clear hb7))
                    go_roundw
                    case rel => exact ⟨j + 1, sx, hjn2, by go_num, HM6.out.ext hl B7.out, HOX.out, HQX.out, HSN.out, by omega⟩
                    case measure => simp [intOf]; omega
            · have hfin : sx = S4 := by rw [show nL - j = 0 by omega] at hS; exact hS
              have HM9 : Hid (Mach M wr S4) := Lib.hid (by rw [← hfin]; exact hM)
              clear hM hOx hqx hS hfin
              go_wp2
              go_end0
              exact ⟨rfl, by rw [HFIN.out]; exact HM9.out⟩
end Go.Proofs.Ytlhnhmimhpcoaaa
