/- The contract of the machine's arrivals. The conditions: the machine reads as named. Bounds on a run's machine. No condition: plain lemmas. The contract of play. The conditions: the run reads as named. -/
import Derived.Test.YtlhnhmimhpcoaaaGreatMg7
import Derived.Deep.RegionLaw
import Derived.Deep.RegionHeldLaw
import Derived.IntWalk
import Derived.Test.YtlhnhmimhpcoaaaGreatMg3
import Derived.Deep.OwnRows
namespace Go.Proofs.YtlhnhmimhpcoaaaGreat
open Go.RowKit
set_option linter.unusedSimpArgs false
set_option linter.unusedVariables false
theorem push_step {M : MPar} {wr wb w1 : World} {s : Ms} {i : Nat} {g : Nat → Hdr} {a' : Option Addr} {c' : Nat} {x : Int} (hM : Mach M wr s) (hl : MLay M) (hi : i < M.R.L.length) (g1 : ∀ k, k < M.R.L.length → wr.cell? ⟨M.W, k, none⟩ = some (sl (g k))) (g2 : IRows M.K wr M.R.L.length g s.qa)
    (hbb : Below wr.heap.size wr wb) (hown : w1.ownsRow M.K 3 1 (.slice a' ((g i).n + 1) c') ((g i).n + 1) ((s.qa i ++ [x]).flatMap enc1)) (hg : wb.grownBy w1 (sl (g i)).ownBlock)
    (hb : (Value.slice a' ((g i).n + 1) c').ownBlock = (sl (g i)).ownBlock ∨ (Value.slice a' ((g i).n + 1) c').ownBlock = some wb.heap.size) :
    w1.cell? ⟨M.p, 7, none⟩ = some (.slice (some ⟨M.W, 0, none⟩) M.R.L.length M.R.L.length) ∧ w1.cell? ⟨M.W, i, none⟩ = some (sl (g i)) ∧ w1.frozen? ⟨M.W, i, none⟩ = false ∧
    Hid (Mach M (w1.setCell ⟨M.W, i, none⟩ (.slice a' ((g i).n + 1) c')) { s with q := s.q.set i (s.qa i ++ [x]) }) := by
  have hk := hM.kl
  have hMb := hM.ext hl hbb
  have hkb := hMb.kl
  have g2b := g2.ext hbb
  have hWz : M.W < wr.heap.size := Nat.lt_of_lt_of_le hl.W.2 hk
  have g1b : ∀ k, k < M.R.L.length → wb.cell? ⟨M.W, k, none⟩ = some (sl (g k)) := fun k hk => (hbb.cell (p := ⟨M.W, k, none⟩) hWz).trans (g1 k hk)
  have hbK : Below M.K wb w1 := grown_below (g2b.own i hi) hg hkb
  have hp2 := hbK.cell (p := ⟨M.p, 7, none⟩) hl.p.2
  refine ⟨hp2.trans hMb.c7, (hbK.cell (p := ⟨M.W, i, none⟩) hl.W.2).trans (g1b i hi), (hbK.frozen (p := ⟨M.W, i, none⟩) hl.W.2).trans (hMb.fw i), Lib.hid ?_⟩
  exact hMb.queue hl hi hbK (fun a m c h => owns_kept h (g2b.own i hi) (by decide) hg) g1b (d := ⟨a', (g i).n + 1, c'⟩) (g2b.push hi hown hg hb)
theorem relA_drop {t : Int} {k : Nat} {evs : List (List P2)} {s : Ms} (h : k < evs.length) : relA t k (evs.drop k) s = relA t (k + 1) (evs.drop (k + 1)) (relE t k 0 (evAt evs k) s) := by
  rw [List.drop_eq_getElem_cons h, relA]
  unfold evAt; rw [List.getElem?_eq_getElem h]; rfl
theorem sigA_qa (t : Int) : ∀ (gs : List P2) (s : Ms) {x : Nat}, (sigA t gs s).qa x = s.qa x
  | [], s, x => rfl
  | g :: gs, s, x => by
    rw [sigA, sigA_qa t gs]
    unfold Ms.qa; rw [sigS_spec.1]
set_option maxRecDepth 100000 in
set_option maxHeartbeats 8000000 in
theorem arrivals_any {M : MPar} {w : World} {s : Ms} {t : Nat} (hM : Mach M w s) (hl : MLay M) (hR : RdRun M.w0 M.H M.R) (hr : RnOk M.R) (hO : MOk M.R s) (hOf : M.O = ofL M.R.L) (hqn : ∀ x, ((relA t 0 M.R.ev s).qa x).length ≤ 100) (ho : s.o.length ≤ 1000000) (ht : t ≤ 10000) :
    Calls Tryz.prog 41 #[.pointer (some ⟨M.p, 0, none⟩), .int .i64 t] w fun e w' => e = .returned (.tuple #[]) ∧ Mach M w' (arrA M.R t s) := by
  have c3 := hM.c3
  have c5 := hM.c5
  have e1 := E1
  have HM := Lib.hid hM; have HR := Lib.hid hR; have HRN := Lib.hid hr; have HO := Lib.hid hO; have HQN := Lib.hid hqn
  have hen := hR.e.len
  have hen2 := hr.ev
  have HEN := Lib.hid hen
  have hL5 := hr.r.len
  obtain ⟨nL, hnL⟩ : ∃ x, M.R.L.length = x := ⟨_, rfl⟩
  have HNL := Lib.hid hnL
  have hE5 : M.H.eN = nL := by omega
  have hn5 : nL ≤ 5 := by omega
  rw [hE5] at c3
  obtain ⟨eA, heA⟩ : ∃ x, M.H.eA = x := ⟨_, rfl⟩
  rw [heA] at c3
  have HEA := Lib.hid heA
  clear heA
  obtain ⟨sA, hsA⟩ : ∃ x, M.H.sA = x := ⟨_, rfl⟩
  obtain ⟨nS, hnS⟩ : ∃ x, M.H.sN = x := ⟨_, rfl⟩
  rw [hsA, hnS] at c5
  have HSG : Hid (Rd M.w0 sA nS 2 (M.R.sg.map enc2)) := Lib.hid (by rw [← hsA, ← hnS]; exact hR.s)
  have hnS40 : nS ≤ 40 := by rw [← HSG.out.length]; exact hr.sl
  clear hsA hnS
  have HC5 := Lib.hid c5
  have HC0 := Lib.hid hM.c0
  clear c5
  obtain ⟨S1, hS1⟩ : ∃ x, relA (t : Int) 0 M.R.ev s = x := ⟨_, rfl⟩
  have HS1 : Hid (relA (t : Int) 0 (M.R.ev.drop 0) s = S1) := Lib.hid hS1
  have HS1' := Lib.hid hS1
  have HE5 := Lib.hid hE5
  clear hM hR hr hO hqn hen hnL hS1 hen2 hE5
  go_enter Tryz.func41, Tryz.ntmps41
  go_wp2
  go_loopw [18] (fun i wr => ∃ (k : Nat) (sr : Ms), k ≤ nL ∧ i = .int .i64 k ∧ Mach M wr sr ∧ relA (t : Int) k (M.R.ev.drop k) sr = S1 ∧ sr.o.length ≤ s.o.length + 40 * k) (fun i _ => nL - (intOf i).toNat)
  case atStart => exact ⟨0, s, Nat.zero_le _, rfl, HM.out, HS1.out, by omega⟩
  case round =>
    clear HS1
    obtain ⟨k, sr, hk, rfl, hM, hS, hob⟩ := hrel
    have HM2 := Lib.hid hM
    clear hM
    by_cases hkn : k < nL
    · have hkE : k < M.H.eN := by rw [HE5.out]; exact hkn
      have hkL : k < M.R.L.length := by rw [HNL.out]; exact hkn
      have hkev : k < M.R.ev.length := by rw [HEN.out]; exact hkE
      obtain ⟨b, off, ea, en, ec, hea, hb, hc, hRd⟩ := HR.out.e.at_ k hkE
      have hc' := (HM2.out.lb.cell (p := ⟨b, off + k, none⟩) hb).trans hc
      have hel := HRN.out.el (evAt M.R.ev k) (by unfold evAt; rw [List.getElem?_eq_getElem hkev]; exact List.getElem_mem hkev)
      have hen40 : en ≤ 40 := by rw [← hRd.length]; exact hel.1
      rw [relA_drop hkev] at hS
      obtain ⟨es, hes⟩ : ∃ x, evAt M.R.ev k = x := ⟨_, rfl⟩
      rw [hes] at hS hRd hel
      have HRD := Lib.hid hRd
      have HEL := Lib.hid hel.2
      obtain ⟨S2, hS2⟩ : ∃ x, relE (t : Int) k 0 es sr = x := ⟨_, rfl⟩
      rw [hS2] at hS
      have hS2l : S2.q.length = M.R.L.length ∧ ∀ x, (sr.qa x).length ≤ (S2.qa x).length := by
        rw [← hS2, relE_eq _ _ _ _ _ (by rw [HM2.out.ql]; exact hkL)]
        refine ⟨by simpa using HM2.out.ql, fun x => ?_⟩
        rw [qa_set (q := sr.q) (by rw [HM2.out.ql]; exact hkL)]
        split
        · rename_i e; subst e; simp
        · exact Nat.le_refl _
      have HB2 : Hid (∀ x, (S2.qa x).length ≤ 100) := Lib.hid (fun x => by
        have h1 := HQN.out x
        rw [HS1'.out, ← hS, (relA_spec (t : Int) (M.R.ev.drop (k + 1)) (k + 1) S2 (by rw [hS2l.1, List.length_drop, HNL.out, HEN.out, HE5.out]; omega)).2.2 x, List.length_append] at h1
        omega)
      have HS := Lib.hid hS
      have HS2 : Hid (relE (t : Int) k 0 (es.drop 0) sr = S2) := Lib.hid hS2
      obtain rfl : eA = some ⟨b, off, none⟩ := HEA.out.symm.trans hea
      clear hS hS2 hes hRd hel hc hS2l hea
      go_wp2
      go_loopw [25] (fun i wx => ∃ (j : Nat) (sx : Ms), j ≤ en ∧ i = .int .i64 j ∧ Mach M wx sx ∧ relE (t : Int) k j (es.drop j) sx = S2 ∧ sx.o.length ≤ s.o.length + 40 * k + j) (fun i _ => en - (intOf i).toNat)
      case atStart => exact ⟨0, sr, Nat.zero_le _, rfl, HM2.out, HS2.out, by omega⟩
      case round =>
        clear HS2 HM2 hc'
        obtain ⟨j, sx, hj, rfl, hM, hS, hob2⟩ := hrel
        have HM3 := Lib.hid hM
        have hqk : (sx.qa k).length ≤ 100 := by
          have h1 := HB2.out k
          rw [← hS, relE_eq _ _ _ _ _ (by rw [hM.ql]; exact hkL), qa_self (by rw [hM.ql]; exact hkL), List.length_append] at h1
          omega
        have HQK := Lib.hid hqk
        by_cases hjn : j < en
        · have hRx := HRD.out.ext hM.lb
          obtain ⟨hjl, b2, off2, rfl, hb2, d0, d1⟩ := hRx.two j hjn
          obtain ⟨⟨x, y⟩, hxy⟩ : ∃ p, es[j] = p := ⟨_, rfl⟩
          have hmem : (x, y) ∈ es := by rw [← hxy]; exact List.getElem_mem hjl
          have hlim := HEL.out _ hmem
          rw [hxy] at d0 d1
          simp only [] at d0 d1 hlim
          rw [List.drop_eq_getElem_cons hjl, relE, hxy] at hS
          simp only [] at hS
          have wx : IntKind.i64.wrap (x + y) = x + y := IntWalk.i64_in _ (by omega)
          by_cases hxt : x + y = (t : Int)
          · have hxt' : (x + y == (t : Int)) = true := by simpa using hxt
            rw [if_pos hxt] at hS
            have HSN := Lib.hid hS
            have HMB : Hid (Mach M (wr.alloc (.cells #[.int .i64 x, .int .i64 y] 53)) sx) := Lib.hid (hM.ext hl (by (repeat' (first | (with_reducible exact Below.refl _ _) | (with_reducible assumption) | (with_reducible refine Below.alloc ?_ ?_ _) | (with_reducible refine Below.drew ?_) | (with_reducible refine Below.draws ?_ _) | (with_reducible refine Below.setCell ?_ ?_ _) | (refine Below.then ?_ (by with_reducible assumption)) | go_size))))
            clear hM hS hRx hxy hmem hlim
            go_wp2_with (go_at_call 42; (with_reducible refine (write_any hl HMB.out (by omega) _ _ _ _ _).mono ?_); rintro e w6 ⟨rfl, hM6⟩; have HM6 := Lib.hid hM6; clear hM6)
            obtain ⟨s6, hs6⟩ : ∃ z, z = sx.wr ⟨(t : Int), (k : Int), 1, (j : Int), 0⟩ := ⟨_, rfl⟩
            rw [← hs6] at HM6
            obtain ⟨g, g1, g2⟩ := HM6.out.qu
            have q7 := HM6.out.c7
            have qW := g1 k hkL
            unfold sl at qW
            have G1 := Lib.hid g1; have G2 := Lib.hid g2
            have hWz : M.W < w6.heap.size := Nat.lt_of_lt_of_le hl.W.2 HM6.out.kl
            have hpz : M.p < w6.heap.size := Nat.lt_of_lt_of_le hl.p.2 HM6.out.kl
            have hfW := HM6.out.fw k
            have hKl := HM6.out.kl
            have hgn : (g k).n ≤ 1000 := by
              rw [← g2.len hkL]
              have : s6.qa k = sx.qa k := by rw [hs6]; rfl
              rw [this]; omega
            have HS6 := Lib.hid hs6
            clear g1 g2 hs6
            rw [HNL.out] at q7
            go_wp2_with fail
            go_region_law ((refine step_app2 (by rfl) _ _ _ (by rfl) e1 (B := M.K) (news := [.int .i64 (j : Int)]) (by rfl) (by exact (G2.out.ext (by (repeat' (first | (with_reducible exact Below.refl _ _) | (with_reducible assumption) | (with_reducible refine Below.alloc ?_ ?_ _) | (with_reducible refine Below.drew ?_) | (with_reducible refine Below.draws ?_ _) | (with_reducible refine Below.setCell ?_ ?_ _) | (refine Below.then ?_ (by with_reducible assumption)) | go_size)))).own k hkL) (by rfl) (by rfl) (by exact World.news_of_block (heap_alloc_new _ _)) (by intro u hu; simp at hu; rcases hu with rfl; rfl) (by omega) (by omega) (by decide) (by simp; omega) ?_; intro a1 c1 w7 hown1 hg1 hb1; obtain ⟨p7, pW, pf, HX⟩ := push_step HM6.out hl hkL G1.out G2.out (by (repeat' (first | (with_reducible exact Below.refl _ _) | (with_reducible assumption) | (with_reducible refine Below.alloc ?_ ?_ _) | (with_reducible refine Below.drew ?_) | (with_reducible refine Below.draws ?_ _) | (with_reducible refine Below.setCell ?_ ?_ _) | (refine Below.then ?_ (by with_reducible assumption)) | go_size))) (ownsI_snoc hown1) hg1 hb1; rw [HNL.out] at p7; clear hown1 hg1 hb1))
            all_goals
              go_wp2_with fail
              go_roundw
              case rel => exact ⟨j + 1, _, hjn, by go_num, HX.out, by rw [HS6.out]; exact HSN.out, by rw [HS6.out]; simp [Ms.wr]; omega⟩
              case measure => simp [intOf]; omega
          · have hxt' : (x + y == (t : Int)) = false := by simpa using hxt
            rw [if_neg hxt] at hS
            have HSN := Lib.hid hS
            have HMB : Hid (Mach M (wr.alloc (.cells #[.int .i64 x, .int .i64 y] 53)) sx) := Lib.hid (hM.ext hl (by (repeat' (first | (with_reducible exact Below.refl _ _) | (with_reducible assumption) | (with_reducible refine Below.alloc ?_ ?_ _) | (with_reducible refine Below.drew ?_) | (with_reducible refine Below.draws ?_ _) | (with_reducible refine Below.setCell ?_ ?_ _) | (refine Below.then ?_ (by with_reducible assumption)) | go_size))))
            clear hM hS hRx hxy hmem hlim
            go_wp2
            go_roundw
            case rel => exact ⟨j + 1, sx, hjn, by go_num, HMB.out, HSN.out, by omega⟩
            case measure => simp [intOf]; omega
        · have he : sx = S2 := by
            rw [List.drop_of_length_le (by have := HRD.out.length; omega)] at hS
            exact hS
          subst he
          clear hM hS
          go_wp2
          go_roundw
          case rel => exact ⟨k + 1, sx, hkn, by go_num, HM3.out, HS.out, by omega⟩
          case measure => simp [intOf]; omega
    · have he : sr = S1 := by
        rw [List.drop_of_length_le (by rw [HEN.out, HE5.out]; omega)] at hS
        exact hS
      have HM1 : Hid (Mach M wr S1) := Lib.hid (by rw [← he]; exact HM2.out)
      have hob1 : S1.o.length ≤ s.o.length + 200 := by rw [← he]; omega
      have hOM1 : MOk M.R S1 := by rw [← HS1'.out]; exact HO.out.relA HRN.out _
      have HOM1 := Lib.hid hOM1
      obtain ⟨S3, hS3⟩ : ∃ x, sigA (t : Int) M.R.sg S1 = x := ⟨_, rfl⟩
      have HS3 : Hid (sigA (t : Int) (M.R.sg.drop 0) S1 = S3) := Lib.hid hS3
      have HS3' := Lib.hid hS3
      have c5 := HM1.out.c5
      have hc5e : M.H.sA = sA ∧ M.H.sN = nS := by
        have h1 := HC5.out
        have h2 := HM.out.c5
        rw [h1] at h2
        simp at h2
        exact ⟨h2.1.symm, h2.2.symm⟩
      rw [hc5e.1, hc5e.2] at c5
      clear hS hS3 he hc5e HM2 hob hOM1
      go_wp2
      go_loopw [66] (fun i wx => ∃ (j : Nat) (sx : Ms), j ≤ nS ∧ i = .int .i64 j ∧ Mach M wx sx ∧ sigA (t : Int) (M.R.sg.drop j) sx = S3 ∧ sx.o.length ≤ s.o.length + 200 + j) (fun i _ => nS - (intOf i).toNat)
      case atStart => exact ⟨0, S1, Nat.zero_le _, rfl, HM1.out, HS3.out, by omega⟩
      case round =>
        clear HS3 HM1 c5
        obtain ⟨j, sx, hj, rfl, hM, hS, hob2⟩ := hrel
        have HM3 := Lib.hid hM
        by_cases hjn : j < nS
        · obtain ⟨hjl, b2, off2, rfl, hb2, d0, d1⟩ := (HSG.out.ext hM.lb).two j hjn
          obtain ⟨⟨x, y⟩, hxy⟩ : ∃ p, M.R.sg[j] = p := ⟨_, rfl⟩
          have hmem : (x, y) ∈ M.R.sg := by rw [← hxy]; exact List.getElem_mem hjl
          have hlim := HRN.out.sg _ hmem
          rw [hxy] at d0 d1
          simp only [] at d0 d1 hlim
          obtain ⟨ix, rfl⟩ := Int.eq_ofNat_of_zero_le hlim.1
          have hixL : ix < M.R.L.length := by omega
          have hixn : ix < nL := by rw [← HNL.out]; exact hixL
          rw [List.drop_eq_getElem_cons hjl, sigA, hxy, sigS] at hS
          simp only [Int.toNat_natCast] at hS
          have HMB : Hid (Mach M (wr.alloc (.cells #[.int .i64 x, .int .i64 (ix : Int)] 53)) sx) := Lib.hid (hM.ext hl (by (repeat' (first | (with_reducible exact Below.refl _ _) | (with_reducible assumption) | (with_reducible refine Below.alloc ?_ ?_ _) | (with_reducible refine Below.drew ?_) | (with_reducible refine Below.draws ?_ _) | (with_reducible refine Below.setCell ?_ ?_ _) | (refine Below.then ?_ (by with_reducible assumption)) | go_size))))
          have HW0 : Hid (Mach M (wr.alloc (.cells #[.int .i64 x, .int .i64 (ix : Int)] 53)) sx) := HMB
          by_cases hxt : x = (t : Int)
          · have hxt' : (x == (t : Int)) = true := by simpa using hxt
            subst hxt
            cases hrd : rdB sx ix
            · rw [if_neg (fun q => q.2 (rdB_no.1 hrd))] at hS
              have HSN := Lib.hid hS; have HRDB := Lib.hid hrd
              clear hM hS hxy hmem hlim hrd
              go_wp2_with (go_at_call 79; (with_reducible refine (ready_is HMB.out hixL HRDB.out).mono ?_); rintro e w6 ⟨rfl, rfl⟩)
              go_roundw
              case rel => exact ⟨j + 1, sx, hjn, by go_num, HMB.out, HSN.out, by omega⟩
              case measure => simp [intOf]; omega
            · rw [if_pos ⟨rfl, rdB_iff.1 hrd⟩] at hS
              have HSN := Lib.hid hS; have HRDB := Lib.hid hrd
              have c8 := hM.c8
              rw [HNL.out] at c8
              have hJz : M.J < wr.heap.size := Nat.lt_of_lt_of_le hl.J.2 hM.kl
              have hpz : M.p < wr.heap.size := Nat.lt_of_lt_of_le hl.p.2 hM.kl
              obtain ⟨_, _, _, j3⟩ := hM.jcells hixL
              have f3 := hM.fj (ix * 4 + 3)
              have hM4 : Mach M ((wr.setCell ⟨M.J, ix * 4 + 3, none⟩ (.bool true)).alloc (.cells #[.int .i64 (t : Int), .int .i64 (ix : Int)] 53)) { sx with j := sx.j.set ix { sx.ja ix with s := true } } := (hM.job hl hixL (j := 3) (by decide) (encJ_s (sx.ja ix) true)).ext hl (by (repeat' (first | (with_reducible exact Below.refl _ _) | (with_reducible assumption) | (with_reducible refine Below.alloc ?_ ?_ _) | (with_reducible refine Below.drew ?_) | (with_reducible refine Below.draws ?_ _) | (with_reducible refine Below.setCell ?_ ?_ _) | (refine Below.then ?_ (by with_reducible assumption)) | go_size)))
              have HM4 := Lib.hid hM4
              have ho4 : ({ sx with j := sx.j.set ix { sx.ja ix with s := true } } : Ms).o.length ≤ 2000000 := by simp only []; omega
              have HO4 := Lib.hid ho4
              clear hM hS hxy hmem hlim hrd hM4 ho4
              go_wp2_with (first
                | (go_at_call 79; (with_reducible refine (ready_is HMB.out hixL HRDB.out).mono ?_); rintro e w6 ⟨rfl, rfl⟩)
                | (go_at_call 42; (with_reducible refine (write_any hl HM4.out HO4.out _ _ _ _ _).mono ?_); rintro e w7 ⟨rfl, hM7⟩; have HM7 := Lib.hid hM7; clear hM7))
              go_roundw
              case rel => exact ⟨j + 1, _, hjn, by go_num, HM7.out, HSN.out, by simp [Ms.wr]; omega⟩
              case measure => simp [intOf]; omega
          · have hxt' : (x == (t : Int)) = false := by simpa using hxt
            rw [if_neg (fun q => hxt q.1)] at hS
            have HSN := Lib.hid hS
            clear hM hS hxy hmem hlim
            go_wp2
            go_roundw
            case rel => exact ⟨j + 1, sx, hjn, by go_num, HMB.out, HSN.out, by omega⟩
            case measure => simp [intOf]; omega
        · have he : sx = S3 := by
            rw [List.drop_of_length_le (by have := HSG.out.length; omega)] at hS
            exact hS
          have HM5 : Hid (Mach M wr S3) := Lib.hid (by rw [← he]; exact HM3.out)
          have hob5 : S3.o.length ≤ s.o.length + 300 := by rw [← he]; omega
          have hOM3 : MOk M.R S3 := by rw [← HS3'.out]; exact MOk.sigA _ _ HOM1.out HRN.out.sg
          have hq3 : ∀ x, (S3.qa x).length ≤ 100 := fun x => by
            have : S3.qa x = S1.qa x := by rw [← HS3'.out]; exact sigA_qa _ _ _
            rw [this, ← HS1'.out]; exact HQN.out x
          have HOM3 := Lib.hid hOM3; have HQ3 := Lib.hid hq3
          obtain ⟨S4, hS4⟩ : ∃ x, endA M.R.L (t : Int) nL 0 S3 = x := ⟨_, rfl⟩
          have HS4 : Hid (endA M.R.L (t : Int) (nL - 0) 0 S3 = S4) := Lib.hid hS4
          have HFIN : Hid (arrA M.R t s = S4) := Lib.hid (by unfold arrA; rw [HS1'.out, HS3'.out, HNL.out]; exact hS4)
          have c0 := HM5.out.c0
          have htn : M.H.tN = nL := by rw [← HNL.out]; exact HR.out.t.length.symm
          rw [htn] at c0
          clear hM hS he hS4 HM3 hob2 hOM3 hq3 htn
          go_wp2
          go_loopw [99] (fun i wx => ∃ (j : Nat) (sx : Ms), j ≤ nL ∧ i = .int .i64 j ∧ Mach M wx sx ∧ MOk M.R sx ∧ (∀ x, (sx.qa x).length ≤ 100) ∧ endA M.R.L (t : Int) (nL - j) j sx = S4 ∧ sx.o.length ≤ s.o.length + 300 + j) (fun i _ => nL - (intOf i).toNat)
          case atStart => exact ⟨0, S3, Nat.zero_le _, rfl, HM5.out, HOM3.out, HQ3.out, HS4.out, by omega⟩
          case round =>
            clear HS4 HM5 c0
            obtain ⟨j, sx, hj, rfl, hM, hOx, hqx, hS, hob6⟩ := hrel
            have HM6 := Lib.hid hM; have HOX := Lib.hid hOx; have HQX := Lib.hid hqx
            by_cases hjn2 : j < nL
            · have hjL : j < M.R.L.length := by rw [HNL.out]; exact hjn2
              rw [show nL - j = (nL - (j + 1)) + 1 by omega, endA, endS] at hS
              cases hrd : rdB sx j
              · rw [if_neg (fun q => q.1 (rdB_no.1 hrd))] at hS
                have HSN := Lib.hid hS; have HRDB := Lib.hid hrd
                clear hM hOx hqx hS hrd
                go_wp2_with (go_at_call 79; (with_reducible refine (ready_is HM6.out hjL HRDB.out).mono ?_); rintro e w6 ⟨rfl, rfl⟩)
                go_roundw
                case rel => exact ⟨j + 1, sx, hjn2, by go_num, HM6.out, HOX.out, HQX.out, HSN.out, by omega⟩
                case measure => simp [intOf]; omega
              · have c8 := hM.c8
                rw [HNL.out] at c8
                obtain ⟨_, _, _, j3⟩ := hM.jcells hjL
                have HRDB := Lib.hid hrd
                have hqne := rdB_iff.1 hrd
                obtain ⟨A, hA⟩ : ∃ A, (sx.ja j).s = A := ⟨_, rfl⟩
                rw [hA] at hS j3
                cases A
                · rw [if_neg (fun q => by have := q.2.1; simp at this)] at hS
                  have HSN := Lib.hid hS
                  clear hM hOx hqx hS hrd hA hqne
                  go_wp2_with (go_at_call 79; (with_reducible refine (ready_is HM6.out hjL HRDB.out).mono ?_); rintro e w6 ⟨rfl, rfl⟩)
                  go_roundw
                  case rel => exact ⟨j + 1, sx, hjn2, by go_num, HM6.out, HOX.out, HQX.out, HSN.out, by omega⟩
                  case measure => simp [intOf]; omega
                · obtain ⟨B, hB⟩ : ∃ B, insB M.R.L sx j = B := ⟨_, rfl⟩
                  rw [hB] at hS
                  have HLK := Lib.hid (locked_is hM HR.out hOx hjL hB)
                  cases B
                  · rw [if_pos ⟨hqne, rfl, rfl⟩] at hS
                    have HSN := Lib.hid hS
                    have HMF : Hid (∀ w1, Below wr.heap.size wr w1 → Calls Tryz.prog 81 #[.pointer (some ⟨M.p, 0, none⟩), .int .i64 (t : Int), .int .i64 (j : Int), .int .i64 1] w1 fun e w' => e = .returned (.tuple #[]) ∧ Mach M w' (fin1 t j 1 sx)) := Lib.hid (fun w1 h1 => end_any hl (hM.ext hl h1) hjL hqne (hqx j) (by omega) _ _)
                    have HOF := Lib.hid (hOx.fin HRN.out (t : Int) 1 hjL)
                    have HQF : Hid (∀ x, ((fin1 (t : Int) j 1 sx).qa x).length ≤ 100) := Lib.hid (fun x => by
                      rw [fin_qa (by rw [hM.ql]; exact hjL)]
                      split
                      · have := hqx j; rw [List.length_tail]; omega
                      · exact hqx x)
                    clear hM hOx hqx hS hrd hA hqne hB
                    go_wp2_with (first
                      | (go_at_call 79; (with_reducible refine (ready_is HM6.out hjL HRDB.out).mono ?_); rintro e w6 ⟨rfl, rfl⟩)
                      | (go_at_call 80; (with_reducible refine HLK.out.mono ?_); rintro e w7 ⟨rfl, hb7⟩; have B7 := Lib.hid hb7; clear hb7)
                      | (go_at_call 81; (with_reducible refine (HMF.out _ B7.out).mono ?_); rintro e w8 ⟨rfl, hM8⟩; have HM8 := Lib.hid hM8; clear hM8))
                    go_roundw
                    case rel => exact ⟨j + 1, _, hjn2, by go_num, HM8.out, HOF.out, HQF.out, HSN.out, by simp [fin1]; omega⟩
                    case measure => simp [intOf]; omega
                  · rw [if_neg (fun q => by have := q.2.2; simp at this)] at hS
                    have HSN := Lib.hid hS
                    clear hM hOx hqx hS hrd hA hqne hB
                    go_wp2_with (first
                      | (go_at_call 79; (with_reducible refine (ready_is HM6.out hjL HRDB.out).mono ?_); rintro e w6 ⟨rfl, rfl⟩)
                      | (go_at_call 80; (with_reducible refine HLK.out.mono ?_); rintro e w7 ⟨rfl, hb7⟩; have B7 := Lib.hid hb7; clear hb7))
                    go_roundw
                    case rel => exact ⟨j + 1, sx, hjn2, by go_num, HM6.out.ext hl B7.out, HOX.out, HQX.out, HSN.out, by omega⟩
                    case measure => simp [intOf]; omega
            · have hfin : sx = S4 := by rw [show nL - j = 0 by omega] at hS; exact hS
              have HM9 : Hid (Mach M wr S4) := Lib.hid (by rw [← hfin]; exact hM)
              clear hM hOx hqx hS hfin
              go_wp2
              go_end0
              exact ⟨rfl, by rw [HFIN.out]; exact HM9.out⟩
end Go.Proofs.YtlhnhmimhpcoaaaGreat
namespace Go.Proofs.YtlhnhmimhpcoaaaGreat
open Go.RowKit
set_option linter.unusedSimpArgs false
set_option linter.unusedVariables false
theorem QR.endA {R : Rn} {t : Int} (hr : RnOk R) : ∀ (f i : Nat) {s : Ms} {at_ : List Nat}, MOk R s → QR R t s at_ → i + f = R.L.length → ∃ at', QR R t (endA R.L t f i s) at'
  | 0, _, s, at_, _, h, _ => ⟨at_, h⟩
  | f + 1, i, s, at_, hm, h, e => by
    rw [Go.Proofs.YtlhnhmimhpcoaaaGreat.endA]
    unfold Go.Proofs.YtlhnhmimhpcoaaaGreat.endS
    split
    · rename_i hc
      have hi : i < at_.length := by rw [h.len]; omega
      exact QR.endA hr f (i + 1) (hm.fin hr t 1 (by omega)) (h.fin hm (List.getElem?_eq_getElem hi) hc.1 t 1) (by omega)
    · exact QR.endA hr f (i + 1) hm h (by omega)
theorem sigA_q (t : Int) : ∀ (gs : List P2) (s : Ms), (sigA t gs s).q = s.q
  | [], s => rfl
  | g :: gs, s => by rw [sigA, sigA_q t gs, sigS_spec.1]
theorem QR.arrA {R : Rn} {t : Int} {s : Ms} {at_ : List Nat} (hr : RnOk R) (hm : MOk R s) (h : QR R (t - 1) s at_) : ∃ at', QR R t (arrA R t s) at' :=
  QR.endA hr _ _ (MOk.sigA t _ (hm.relA hr t) hr.sg) ((h.rel hr hm).of (sigA_q _ _ _)) (by omega)
theorem QR.wkA {R : Rn} {t u : Int} {s : Ms} {at_ : List Nat} {i : Nat} (hm : MOk R s) (h : QR R t s at_) (hi : i < R.L.length) (hq : s.qa i ≠ []) : ∃ at', QR R t (wkA R u i s) at' := by
  unfold Go.Proofs.YtlhnhmimhpcoaaaGreat.wkA
  split
  · have hil : i < at_.length := by rw [h.len]; exact hi
    have := h.fin hm (List.getElem?_eq_getElem hil) hq (u + 1) 0
    exact ⟨_, this.of rfl⟩
  · split
    · exact ⟨at_, h.of rfl⟩
    · exact ⟨at_, h.of rfl⟩
theorem QR.tckB {R : Rn} {t : Int} {s : Ms} {at_ : List Nat} (hr : RnOk R) (hm : MOk R s) (h : QR R t s at_) : ∃ at', QR R t (tckB R t s) at' := by
  unfold Go.Proofs.YtlhnhmimhpcoaaaGreat.tckB
  split
  · exact ⟨at_, h.of rfl⟩
  · split
    · rename_i hc
      obtain ⟨h1, h2, h3, h4⟩ := chM_spec R.L s
      exact h.wkA hm (by omega) (h4 hc)
    · exact ⟨at_, h⟩
theorem plM_qr {R : Rn} (hr : RnOk R) : ∀ k : Nat, ∃ at_, QR R ((k : Int) - 1) (plM R k) at_
  | 0 => ⟨List.replicate R.L.length 0, ⟨by simp, fun i a ha => by
    have hq : (plM R 0).qa i = [] := by
      unfold plM ms0 Ms.qa; simp only [List.getElem?_replicate]; split <;> rfl
    have h0 : a = 0 := by
      rw [List.getElem?_replicate] at ha
      split at ha
      · simpa using ha.symm
      · simp at ha
    subst h0
    have : outE (evA R i) (((0 : Nat) : Int) - 1) = [] := by
      refine outE_none (fun e he => ?_) (by omega)
      unfold evA at he
      cases hev : R.ev[i]? with
      | none => rw [hev] at he; simp at he
      | some l =>
        rw [hev] at he
        have := (hr.el l (List.mem_of_getElem? hev)).2 e he
        omega
    rw [hq, this]; exact ⟨rfl, Nat.le_refl _⟩⟩⟩
  | k + 1 => by
    obtain ⟨at_, h⟩ := plM_qr hr k
    have hm := plM_ok hr k
    obtain ⟨a1, h1⟩ := h.arrA hr hm
    obtain ⟨a2, h2⟩ := h1.tckB hr (hm.arrA hr _)
    refine ⟨a2, ?_⟩
    rw [show (((k + 1 : Nat) : Int) - 1) = (k : Int) by omega]
    exact h2
theorem QR.small {R : Rn} {t : Int} {s : Ms} {at_ : List Nat} (hr : RnOk R) (hm : MOk R s) (h : QR R t s at_) (x : Nat) : (s.qa x).length ≤ 40 := by
  by_cases hx : x < R.L.length
  · have hxl : x < at_.length := by rw [h.len]; exact hx
    obtain ⟨e, _⟩ := h.q x _ (List.getElem?_eq_getElem hxl)
    rw [e, List.length_drop]
    have h1 : (outE (evA R x) t).length ≤ (ordE (evA R x)).length := List.length_filter_le _ _
    rw [ordE_len] at h1
    have h2 : (evA R x).length ≤ 40 := by
      unfold evA
      cases hev : R.ev[x]? with
      | none => simp
      | some l => exact (hr.el l (List.mem_of_getElem? hev)).1
    omega
  · have : s.qa x = [] := by unfold Ms.qa; rw [List.getElem?_eq_none (by rw [hm.ql]; omega)]; rfl
    rw [this]; simp
theorem rel_small {R : Rn} (hr : RnOk R) (k : Nat) (x : Nat) : ((relA (k : Int) 0 R.ev (plM R k)).qa x).length ≤ 40 := by
  obtain ⟨at_, h⟩ := plM_qr hr k
  have hm := plM_ok hr k
  exact QR.small hr (hm.relA hr _) (h.rel hr hm) x
theorem arr_small {R : Rn} (hr : RnOk R) (k : Nat) (x : Nat) : ((arrA R (k : Int) (plM R k)).qa x).length ≤ 40 := by
  obtain ⟨at_, h⟩ := plM_qr hr k
  have hm := plM_ok hr k
  obtain ⟨a1, h1⟩ := h.arrA hr hm
  exact QR.small hr (hm.arrA hr _) h1 x
/-- the lengths of what is written -/
theorem relK_len (t : Int) : ∀ (es : List P2) (k : Nat), (relK t k es).length ≤ es.length
  | [], k => Nat.le_refl _
  | e :: es, k => by
    have := relK_len t es (k + 1)
    rw [relK, List.length_append, List.length_cons]
    split <;> simp <;> omega
theorem relE_o (t : Int) (i : Nat) : ∀ (es : List P2) (k : Nat) (s : Ms), (relE t i k es s).o.length ≤ s.o.length + es.length
  | [], k, s => by simp [relE]
  | e :: es, k, s => by
    rw [relE]
    have := relE_o t i es (k + 1) (if e.1 + e.2 = t then rel1 t i k s else s)
    refine Nat.le_trans this ?_
    rw [List.length_cons]
    split
    · simp [rel1]; omega
    · omega
theorem relA_o (t : Int) : ∀ (ls : List (List P2)) (i : Nat) (s : Ms), (∀ l ∈ ls, l.length ≤ 40) → (relA t i ls s).o.length ≤ s.o.length + 40 * ls.length
  | [], i, s, _ => by simp [relA]
  | l :: ls, i, s, h => by
    rw [relA]
    have h1 := relA_o t ls (i + 1) (relE t i 0 l s) (fun x hx => h x (by simp [hx]))
    have h2 := relE_o t i l 0 s
    have h3 := h l (by simp)
    rw [List.length_cons]; omega
theorem sigA_o (t : Int) : ∀ (gs : List P2) (s : Ms), (sigA t gs s).o.length ≤ s.o.length + gs.length
  | [], s => by simp [sigA]
  | g :: gs, s => by
    rw [sigA]
    have h1 := sigA_o t gs (sigS t g s)
    have h2 : (sigS t g s).o.length ≤ s.o.length + 1 := by unfold sigS; split <;> simp [sig1]
    rw [List.length_cons]; omega
theorem endA_o (L : List Ta) (t : Int) : ∀ (f i : Nat) (s : Ms), (endA L t f i s).o.length ≤ s.o.length + f
  | 0, _, s => by simp [endA]
  | f + 1, i, s => by
    rw [endA]
    have h1 := endA_o L t f (i + 1) (endS L t i s)
    have h2 : (endS L t i s).o.length ≤ s.o.length + 1 := by unfold endS; split <;> simp [fin1]
    omega
theorem arrA_o {R : Rn} (hr : RnOk R) (t : Int) (s : Ms) : (arrA R t s).o.length ≤ s.o.length + 250 := by
  unfold arrA
  have h1 := endA_o R.L t R.L.length 0 (sigA t R.sg (relA t 0 R.ev s))
  have h2 := sigA_o t R.sg (relA t 0 R.ev s)
  have h3 := relA_o t R.ev 0 s (fun l hl => (hr.el l hl).1)
  have h4 := hr.r.len
  have h5 := hr.ev
  have h6 := hr.sl
  omega
theorem wkA_o (R : Rn) (t : Int) (i : Nat) (s : Ms) : (wkA R t i s).o.length ≤ s.o.length + 2 := by
  unfold wkA; split
  · simp [fin1]
  · split <;> simp
theorem tckA_o {R : Rn} (hr : RnOk R) (t : Int) (s : Ms) : (tckA R t s).o.length ≤ s.o.length + 252 := by
  unfold tckA tckB
  have h1 := arrA_o hr t s
  split
  · simp [Ms.wr]; omega
  · split
    · have := wkA_o R t (chM R.L (arrA R t s)).toNat (arrA R t s); omega
    · omega
theorem plM_o {R : Rn} (hr : RnOk R) : ∀ k : Nat, (plM R k).o.length ≤ 252 * k
  | 0 => by simp [plM, ms0]
  | k + 1 => by
    have h1 := plM_o hr k
    have h2 := tckA_o hr (k : Int) (plM R k)
    rw [plM]; omega
/-- the ticks of a job -/
theorem relA_ja {R : Rn} (hr : RnOk R) {t : Int} {s : Ms} (hm : MOk R s) (i : Nat) : (relA t 0 R.ev s).ja i = s.ja i := by
  obtain ⟨_, h2, _⟩ := relA_spec t R.ev 0 s (by rw [hm.ql, hr.ev]; omega)
  unfold Ms.ja; rw [h2]
theorem sigS_d {R : Rn} {t : Int} {g : P2} {s : Ms} (hm : MOk R s) (hg : 0 ≤ g.2 ∧ g.2 < R.L.length) (i : Nat) : ((sigS t g s).ja i).d = (s.ja i).d := by
  unfold sigS; split
  · unfold sig1
    rw [ja_set (by rw [hm.jl]; omega)]
    split
    · rename_i e; subst e; rfl
    · rfl
  · rfl
theorem sigA_d {R : Rn} {t : Int} : ∀ (gs : List P2) {s : Ms}, MOk R s → (∀ g ∈ gs, 0 ≤ g.2 ∧ g.2 < R.L.length) → ∀ i, ((sigA t gs s).ja i).d = (s.ja i).d
  | [], s, _, _, i => rfl
  | g :: gs, s, hm, hg, i => by
    rw [sigA, sigA_d gs (hm.sigS t (hg g (by simp))) (fun x hx => hg x (by simp [hx])) i, sigS_d hm (hg g (by simp))]
theorem endA_d {R : Rn} (hr : RnOk R) {t : Int} : ∀ (f i : Nat) {s : Ms}, MOk R s → i + f = R.L.length → ∀ x, ((endA R.L t f i s).ja x).d ≤ (s.ja x).d
  | 0, _, _, _, _, x => Nat.le_refl _
  | f + 1, i, s, hm, e, x => by
    rw [endA]
    have h1 := endA_d (t := t) hr f (i + 1) (hm.endS hr t (by omega : i < R.L.length)) (by omega) x
    refine Nat.le_trans h1 ?_
    unfold endS; split
    · rw [fin_ja (by rw [hm.jl]; omega)]
      split
      · exact Nat.zero_le _
      · exact Nat.le_refl _
    · exact Nat.le_refl _
theorem arrA_d {R : Rn} (hr : RnOk R) {t : Int} {s : Ms} (hm : MOk R s) (x : Nat) : ((arrA R t s).ja x).d ≤ (s.ja x).d := by
  unfold arrA
  have h1 := endA_d hr (t := t) R.L.length 0 (MOk.sigA t R.sg (hm.relA hr t) hr.sg) (by omega) x
  rw [sigA_d R.sg (hm.relA hr t) hr.sg x, relA_ja hr hm] at h1
  exact h1
theorem jbN_d (L : List Ta) (i : Nat) (j : Jb) : (jbN L i j).d = j.d + 1 := by unfold jbN; split <;> rfl
theorem wkA_d {R : Rn} {t : Int} {i : Nat} {s : Ms} (hm : MOk R s) (hi : i < R.L.length) (x : Nat) : ((wkA R t i s).ja x).d ≤ (s.ja x).d + 1 := by
  have hl : i < s.j.length := by rw [hm.jl]; exact hi
  unfold wkA; split
  · rw [fin_ja (by simpa using hl)]
    split
    · exact Nat.zero_le _
    · rw [ja_set hl]; rename_i e; rw [if_neg e]; omega
  · split
    · rw [ja_set hl]
      split
      · rename_i e; subst e; show (jbN R.L x (s.ja x)).d ≤ _; rw [jbN_d]; omega
      · omega
    · rw [ja_set hl]
      split
      · rename_i e; subst e; rw [jbN_d]; omega
      · omega
theorem plM_d {R : Rn} (hr : RnOk R) : ∀ (k x : Nat), ((plM R k).ja x).d ≤ k
  | 0, x => by
    have : (plM R 0).ja x = Jb.zero := by unfold plM ms0 Ms.ja; simp only [List.getElem?_replicate]; split <;> rfl
    rw [this]; exact Nat.le_refl 0
  | k + 1, x => by
    have hm := plM_ok hr k
    have h1 := plM_d hr k x
    have h2 := arrA_d hr (t := (k : Int)) hm x
    have hma := hm.arrA hr (k : Int)
    rw [plM, tckA, tckB]
    split
    · show ((arrA R (k : Int) (plM R k)).ja x).d ≤ _; omega
    · split
      · rename_i hc
        obtain ⟨_, g2, _, _⟩ := chM_spec R.L (arrA R (k : Int) (plM R k))
        have := wkA_d (t := (k : Int)) hma (by omega : (chM R.L (arrA R (k : Int) (plM R k))).toNat < R.L.length) x
        omega
      · omega
theorem arr_d {R : Rn} (hr : RnOk R) (k x : Nat) : ((arrA R (k : Int) (plM R k)).ja x).d ≤ k := Nat.le_trans (arrA_d hr (plM_ok hr k) x) (plM_d hr k x)
end Go.Proofs.YtlhnhmimhpcoaaaGreat
namespace Go.Proofs.YtlhnhmimhpcoaaaGreat
open Go.RowKit
set_option linter.unusedSimpArgs false
set_option linter.unusedVariables false
/-- a block known whole -/
structure Blk (w : World) (b : Nat) (cs : Array Value) : Prop where
  c : ∀ i, w.cell? ⟨b, i, none⟩ = cs[i]?
  f : ∀ i, w.frozen? ⟨b, i, none⟩ = false
  l : b < w.heap.size
theorem Blk.at (w : World) (cs : Array Value) (t : TypeId) (b : Nat) (h : b = w.heap.size) : Blk (w.alloc (.cells cs t)) b cs := by
  subst h
  exact ⟨fun i => World.cell?_alloc_new w cs t i, fun i => World.frozen?_alloc_new w cs t i, by simp⟩
theorem Blk.old {w : World} {b : Nat} {cs : Array Value} (h : Blk w b cs) (o : Obj) : Blk (w.alloc o) b cs :=
  ⟨fun i => (World.cell?_alloc_past o b i h.l).trans (h.c i), fun i => (World.frozen?_alloc_past o b i h.l).trans (h.f i), by have := h.l; simp; omega⟩
theorem Blk.drew {w : World} {b : Nat} {cs : Array Value} (h : Blk w b cs) : Blk w.drew b cs := ⟨h.c, h.f, h.l⟩
theorem made_one (v : Value) (n i : Nat) (h : i < n) : (madeCells #[v] n)[i]? = some v := by simp [madeCells, h, Nat.mod_one]
theorem made_four (a b c d : Value) (n i j : Nat) (h : i < n) (hj : j < 4) : (madeCells #[a, b, c, d] (n * 4))[i * 4 + j]? = [a, b, c, d][j]? := by
  have h1 : i * 4 + j < n * 4 := by omega
  have h2 : (i * 4 + j) % 4 = j := by omega
  simp only [madeCells, Array.getElem?_map, Array.getElem?_range, h1, if_true, Option.map_some]
  have h3 : (#[a, b, c, d] : Array Value).size = 4 := rfl
  rw [h3, h2]
  match j, hj with
  | 0, _ => rfl
  | 1, _ => rfl
  | 2, _ => rfl
  | 3, _ => rfl
theorem mach0 {M : MPar} {w : World} (hK : M.K ≤ w.heap.size) (hO : M.O = List.replicate M.R.L.length 0) (hb : Below M.w0.heap.size M.w0 w)
    (hp : Blk w M.p #[.slice M.H.tA M.H.tN M.H.tC, .int .i64 M.R.fr, .int .i64 M.R.sl, .slice M.H.eA M.H.eN M.H.eC, .slice M.H.bA M.H.bN M.H.bC, .slice M.H.sA M.H.sN M.H.sC, .slice (some ⟨M.rb, 0, none⟩) M.R.L.length M.R.L.length, .slice (some ⟨M.W, 0, none⟩) M.R.L.length M.R.L.length, .slice (some ⟨M.J, 0, none⟩) M.R.L.length M.R.L.length, .slice none 0 0])
    (hW : Blk w M.W (madeCells #[.slice none 0 0] M.R.L.length)) (hJ : Blk w M.J (madeCells #[.int .i64 0, .int .i64 0, .int .i64 0, .bool false] (M.R.L.length * 4))) (hr : Blk w M.rb (madeCells #[.int .i64 0] M.R.L.length)) : Mach M w (ms0 M.R.L.length) := by
  have hja : ∀ i, (ms0 M.R.L.length).ja i = Jb.zero := fun i => by unfold Ms.ja ms0; simp only [List.getElem?_replicate]; split <;> rfl
  have hqa : ∀ i, (ms0 M.R.L.length).qa i = [] := fun i => by unfold Ms.qa ms0; simp only [List.getElem?_replicate]; split <;> rfl
  refine ⟨hp.c 0, hp.c 1, hp.c 2, hp.c 3, hp.c 4, hp.c 5, hp.c 6, hp.c 7, hp.c 8, hp.f, ⟨none, 0, 0, hp.c 9, World.ownsRow_nil _ _ _ _⟩, fun i hi => ⟨0, ?_, ?_⟩, hr.f, ⟨fun _ => ⟨none, 0, 0⟩, fun i hi => ?_, ⟨fun i hi => ?_, fun i j _ _ _ => .inl rfl⟩⟩, hW.f, fun i hi j hj => ?_, hJ.f, hK, by simp [ms0], by simp [ms0], hb⟩
  · rw [hO, List.getElem?_replicate, if_pos hi]
  · rw [hr.c, made_one _ _ _ hi]
  · rw [hW.c, made_one _ _ _ hi]
  · rw [hqa]; exact World.ownsRow_nil _ _ _ _
  · rw [hJ.c, made_four _ _ _ _ _ _ _ hi hj, hja]; rfl
/-- a rank has been laid -/
theorem Mach.rank {M : MPar} {w : World} {s : Ms} (h : Mach M w s) (hl : MLay M) {k : Nat} (hk : k < M.R.L.length) (hO : M.O.length = M.R.L.length) (x : Int) : Mach { M with O := M.O.set k x } (w.setCell ⟨M.rb, k, none⟩ (.int .i64 x)) s := by
  have hkl := h.kl
  obtain ⟨n1, n2, n3, n4, n5, n6⟩ := hl.ne
  have co : ∀ b j, b ≠ M.rb → (w.setCell ⟨M.rb, k, none⟩ (.int .i64 x)).cell? ⟨b, j, none⟩ = w.cell? ⟨b, j, none⟩ := fun b j hb => World.cell?_setCell_other _ _ _ _ (addr_neS (.inl (fun q => hb q.symm)))
  have cp := fun j => co M.p j n3
  refine ⟨(cp 0).trans h.c0, (cp 1).trans h.c1, (cp 2).trans h.c2, (cp 3).trans h.c3, (cp 4).trans h.c4, (cp 5).trans h.c5, (cp 6).trans h.c6, (cp 7).trans h.c7, (cp 8).trans h.c8,
    fun j => by rw [World.frozen?_setCell]; exact h.fp j, ?_, fun i hi => ?_, fun j => by rw [World.frozen?_setCell]; exact h.fr j, ?_, fun j => by rw [World.frozen?_setCell]; exact h.fw j, fun i hi j hj4 => (co M.J _ n6).trans (h.jb i hi j hj4), fun j => by rw [World.frozen?_setCell]; exact h.fj j,
    by simpa using hkl, h.ql, h.jl, h.lb.setCell (p := ⟨M.rb, k, none⟩) hl.r.1 _⟩
  · obtain ⟨a, m, c, g1, g2⟩ := h.en
    exact ⟨a, m, c, (cp 9).trans g1, owns_far g2 hl.r.2 _⟩
  · obtain ⟨y, g1, g2⟩ := h.rk i hi
    by_cases e : i = k
    · subst e
      exact ⟨x, by show (M.O.set i x)[i]? = _; rw [List.getElem?_set, if_pos rfl, if_pos (by rw [hO]; exact hi)], World.cell?_setCell_same _ _ _ g2⟩
    · exact ⟨y, by show (M.O.set k x)[i]? = _; rw [List.getElem?_set, if_neg (fun q => e q.symm)]; exact g1, (World.cell?_setCell_other _ _ _ _ (addr_neS (.inr (fun q => e q.symm)))).trans g2⟩
  · obtain ⟨g, g1, g2⟩ := h.qu
    exact ⟨g, fun i hi => (co M.W i n5).trans (g1 i hi), g2.far hl.r.2 _⟩
theorem make_jobs (n : Nat) (hn : n ≤ 1000) (w : World) : (Instr.makeSlice 84 (.int .i64 (n : Int)) (.int .i64 (n : Int))).run Tryz.prog w = .ok (.slice (some ⟨w.heap.size, 0, none⟩) n n) (w.alloc (.cells (madeCells #[.int .i64 0, .int .i64 0, .int .i64 0, .bool false] (n * 4)) 131)) := by
  obtain ⟨i, h1, h2, h3, h4⟩ := info_parts (show (Tryz.prog.info? 131).map (fun i => (i.zero, i.size, i.bytes)) = some (some (.agg #[.int .i64 0, .int .i64 0, .int .i64 0, .bool false]), 4, 32) by kernel_rfl)
  have := run_make (P := Tryz.prog) w 84 131 i _ Tryz.underlying84 h1 h2 .i64 .i64 (n : Int) (n : Int) (by omega) (by omega) (by rw [h4]; omega) (by omega)
  rw [this, h3]
  simp [Value.cells]
theorem schRanks_is {a : Option Addr} {n c : Nat} {L : List Ta} {xs : List Int} {y : Int} {w : World} (hL : RdL w a n L) (h : ranksR L = (xs, y)) : Calls Tryz.prog 40 #[.slice a n c] w (OutTE w.heap.size w xs y) := by
  have := Ranks_any a n c L w hL
  rw [h] at this; exact this
theorem ranks_ok {L : List Ta} (h : Right L) : ranksR L = (rankL L, 0) := by unfold ranksR; rw [right_B h]; rfl
theorem MLay.rank {M : MPar} (h : MLay M) (O : List Int) : MLay { M with O := O } := ⟨h.p, h.W, h.J, h.r, h.ne⟩
set_option maxRecDepth 100000 in
set_option maxHeartbeats 8000000 in
theorem play_any (H : RunH) (R : Rn) (ticks : Nat) (w : World) (hR : RdRun w H R) (hr : RnOk R) (ht : ticks ≤ 2000) :
    Calls Tryz.prog 18 #[.agg #[.slice H.tA H.tN H.tC, .int .i64 R.fr, .int .i64 R.sl, .slice H.eA H.eN H.eC, .slice H.bA H.bN H.bC, .slice H.sA H.sN H.sC], .int .i64 (ticks : Int)] w fun e w' => ∃ a n c, e = .returned (.slice a n c) ∧ w'.ownsRow w.heap.size 58 5 (.slice a n c) n ((plM R ticks).o.flatMap encE) ∧ Below w.heap.size w w' := by
  have htn := hR.t.length
  have hL5 := hr.r.len
  have HR := Lib.hid hR; have HRN := Lib.hid hr
  obtain ⟨nL, hnL⟩ : ∃ x, R.L.length = x := ⟨_, rfl⟩
  have HNL := Lib.hid hnL
  have htn' : H.tN = nL := by omega
  have hn5 : nL ≤ 5 := by omega
  obtain ⟨fr, hfr⟩ : ∃ x, R.fr = x := ⟨_, rfl⟩
  obtain ⟨sl_, hsl⟩ : ∃ x, R.sl = x := ⟨_, rfl⟩
  rw [htn', hfr, hsl]
  have HFR := Lib.hid hfr; have HSL := Lib.hid hsl; have HTN := Lib.hid htn'
  clear hR hr htn hnL htn' hfr hsl
  go_enter Tryz.func18, Tryz.ntmps18
  go_upto_region 2 with fail
  obtain ⟨w1, hw1⟩ : ∃ x, x = w.alloc (.cells #[.slice H.tA nL H.tC, .int .i64 fr, .int .i64 sl_, .slice H.eA H.eN H.eC, .slice H.bA H.bN H.bC, .slice H.sA H.sN H.sC] 29) := ⟨_, rfl⟩
  have hB1 : Blk w1 w.heap.size #[.slice H.tA nL H.tC, .int .i64 fr, .int .i64 sl_, .slice H.eA H.eN H.eC, .slice H.bA H.bN H.bC, .slice H.sA H.sN H.sC] := by rw [hw1]; exact Blk.at _ _ _ _ rfl
  have hb1 : Below w.heap.size w w1 := by rw [hw1]; (repeat' (first | (with_reducible exact Below.refl _ _) | (with_reducible assumption) | (with_reducible refine Below.alloc ?_ ?_ _) | (with_reducible refine Below.drew ?_) | (with_reducible refine Below.draws ?_ _) | (with_reducible refine Below.setCell ?_ ?_ _) | (refine Below.then ?_ (by with_reducible assumption)) | go_size))
  rw [← hw1]
  have r0 := hB1.c 0; have r1 := hB1.c 1; have r2 := hB1.c 2; have r3 := hB1.c 3; have r4 := hB1.c 4; have r5 := hB1.c 5
  simp at r0 r1 r2 r3 r4 r5
  have hmk1 := run_make_row' (P := Tryz.prog) 26 3 (.int .i64 0) 8 Tryz.underlying26 (by kernel_rfl) rfl .i64 .i64 nL (by omega) (by omega)
  have hmk2 := run_make_row' (P := Tryz.prog) 60 26 (.slice none 0 0) 24 Tryz.underlying60 (by kernel_rfl) rfl .i64 .i64 nL (by omega) (by omega)
  have hmk3 := make_jobs nL (by omega)
  have hq0 := hB1.l
  have hq01 : w.heap.size < w1.heap.size + 1 := by omega
  have hq02 : w.heap.size < w1.heap.size + 1 + 1 := by omega
  have hq03 : w.heap.size < w1.heap.size + 2 := by omega
  have hq04 : w.heap.size < w1.heap.size + 1 + 1 + 1 := by omega
  have hq05 : w.heap.size < w1.heap.size + 3 := by omega
  clear hw1
  go_cut [6] (fun v wx => ∃ p W J rb : Nat, v = .pointer (some ⟨p, 0, none⟩) ∧ Blk wx p #[.slice H.tA nL H.tC, .int .i64 fr, .int .i64 sl_, .slice H.eA H.eN H.eC, .slice H.bA H.bN H.bC, .slice H.sA H.sN H.sC, .slice (some ⟨rb, 0, none⟩) nL nL, .slice (some ⟨W, 0, none⟩) nL nL, .slice (some ⟨J, 0, none⟩) nL nL, .slice none 0 0] ∧
    Blk wx W (madeCells #[.slice none 0 0] nL) ∧ Blk wx J (madeCells #[.int .i64 0, .int .i64 0, .int .i64 0, .bool false] (nL * 4)) ∧ Blk wx rb (madeCells #[.int .i64 0] nL) ∧ w1.heap.size ≤ p ∧ w1.heap.size ≤ W ∧ w1.heap.size ≤ J ∧ w1.heap.size ≤ rb ∧ (p ≠ W ∧ p ≠ J ∧ p ≠ rb ∧ W ≠ J ∧ W ≠ rb ∧ J ≠ rb) ∧ Below w1.heap.size w1 wx)
  case first =>
    go_region
    all_goals
      go_wp2_with fail
      go_meet
      first
        | exact ⟨_, w1.heap.size, w1.heap.size + 1, w1.heap.size + 1 + 1, rfl, (Blk.at _ _ _ _ (by simp)).drew, ((((Blk.at _ _ _ _ rfl).old _).old _).old _).drew, (((Blk.at _ _ _ _ (by simp)).old _).old _).drew, ((Blk.at _ _ _ _ (by simp)).old _).drew, by omega, by omega, by omega, by omega, by omega, by (repeat' (first | (with_reducible exact Below.refl _ _) | (with_reducible assumption) | (with_reducible refine Below.alloc ?_ ?_ _) | (with_reducible refine Below.drew ?_) | (with_reducible refine Below.draws ?_ _) | (with_reducible refine Below.setCell ?_ ?_ _) | (refine Below.then ?_ (by with_reducible assumption)) | go_size))⟩
        | exact ⟨_, w1.heap.size, w1.heap.size + 1 + 1, w1.heap.size + 1, rfl, (Blk.at _ _ _ _ (by simp)).drew, ((((Blk.at _ _ _ _ rfl).old _).old _).old _).drew, ((Blk.at _ _ _ _ (by simp)).old _).drew, (((Blk.at _ _ _ _ (by simp)).old _).old _).drew, by omega, by omega, by omega, by omega, by omega, by (repeat' (first | (with_reducible exact Below.refl _ _) | (with_reducible assumption) | (with_reducible refine Below.alloc ?_ ?_ _) | (with_reducible refine Below.drew ?_) | (with_reducible refine Below.draws ?_ _) | (with_reducible refine Below.setCell ?_ ?_ _) | (refine Below.then ?_ (by with_reducible assumption)) | go_size))⟩
        | exact ⟨_, w1.heap.size + 1, w1.heap.size, w1.heap.size + 1 + 1, rfl, (Blk.at _ _ _ _ (by simp)).drew, (((Blk.at _ _ _ _ (by simp)).old _).old _).drew, ((((Blk.at _ _ _ _ rfl).old _).old _).old _).drew, ((Blk.at _ _ _ _ (by simp)).old _).drew, by omega, by omega, by omega, by omega, by omega, by (repeat' (first | (with_reducible exact Below.refl _ _) | (with_reducible assumption) | (with_reducible refine Below.alloc ?_ ?_ _) | (with_reducible refine Below.drew ?_) | (with_reducible refine Below.draws ?_ _) | (with_reducible refine Below.setCell ?_ ?_ _) | (refine Below.then ?_ (by with_reducible assumption)) | go_size))⟩
        | exact ⟨_, w1.heap.size + 1, w1.heap.size + 1 + 1, w1.heap.size, rfl, (Blk.at _ _ _ _ (by simp)).drew, (((Blk.at _ _ _ _ (by simp)).old _).old _).drew, ((Blk.at _ _ _ _ (by simp)).old _).drew, ((((Blk.at _ _ _ _ rfl).old _).old _).old _).drew, by omega, by omega, by omega, by omega, by omega, by (repeat' (first | (with_reducible exact Below.refl _ _) | (with_reducible assumption) | (with_reducible refine Below.alloc ?_ ?_ _) | (with_reducible refine Below.drew ?_) | (with_reducible refine Below.draws ?_ _) | (with_reducible refine Below.setCell ?_ ?_ _) | (refine Below.then ?_ (by with_reducible assumption)) | go_size))⟩
        | exact ⟨_, w1.heap.size + 1 + 1, w1.heap.size, w1.heap.size + 1, rfl, (Blk.at _ _ _ _ (by simp)).drew, ((Blk.at _ _ _ _ (by simp)).old _).drew, ((((Blk.at _ _ _ _ rfl).old _).old _).old _).drew, (((Blk.at _ _ _ _ (by simp)).old _).old _).drew, by omega, by omega, by omega, by omega, by omega, by (repeat' (first | (with_reducible exact Below.refl _ _) | (with_reducible assumption) | (with_reducible refine Below.alloc ?_ ?_ _) | (with_reducible refine Below.drew ?_) | (with_reducible refine Below.draws ?_ _) | (with_reducible refine Below.setCell ?_ ?_ _) | (refine Below.then ?_ (by with_reducible assumption)) | go_size))⟩
        | exact ⟨_, w1.heap.size + 1 + 1, w1.heap.size + 1, w1.heap.size, rfl, (Blk.at _ _ _ _ (by simp)).drew, ((Blk.at _ _ _ _ (by simp)).old _).drew, (((Blk.at _ _ _ _ (by simp)).old _).old _).drew, ((((Blk.at _ _ _ _ rfl).old _).old _).old _).drew, by omega, by omega, by omega, by omega, by omega, by (repeat' (first | (with_reducible exact Below.refl _ _) | (with_reducible assumption) | (with_reducible refine Below.alloc ?_ ?_ _) | (with_reducible refine Below.drew ?_) | (with_reducible refine Below.draws ?_ _) | (with_reducible refine Below.setCell ?_ ?_ _) | (refine Below.then ?_ (by with_reducible assumption)) | go_size))⟩
  case rest =>
    obtain ⟨p, W, J, rb, rfl, kp, kW, kJ, kr, h1, h2, h3, h4, h5, hb2⟩ := hcut
    obtain ⟨rk, hrk⟩ : ∃ x, rankL R.L = x := ⟨_, rfl⟩
    have HRK : Hid (ranksR R.L = (rk, 0)) := Lib.hid (by rw [← hrk]; exact ranks_ok HRN.out.r)
    have hrl : rk.length = nL := by rw [← hrk, rank_len, HNL.out]
    have hrm : ∀ k ∈ rk, 0 ≤ k ∧ k < nL := fun k hk => by rw [← hrk] at hk; have := rank_mem.1 hk; rw [HNL.out] at this; exact this
    have hos : ofSet 0 (List.replicate nL 0) (rk.drop 0) = ofL R.L := by rw [← hrk, List.drop_zero, ← ofSet_eq, HNL.out]
    clear hq01 hq02 hq03 hq04 hq05
    have hq1 : w.heap.size < wc.heap.size := Nat.lt_of_lt_of_le hq0 hb2.size
    obtain ⟨MO, hMO⟩ : ∃ f : List Int → MPar, f = fun O => (⟨w1, H, R, wc.heap.size, p, W, J, rb, O⟩ : MPar) := ⟨_, rfl⟩
    have hlay : ∀ O, MLay (MO O) := fun O => by rw [hMO]; exact ⟨⟨h1, kp.l⟩, ⟨h2, kW.l⟩, ⟨h3, kJ.l⟩, ⟨h4, kr.l⟩, h5⟩
    have hm0 : Mach (MO (List.replicate nL 0)) wc (plM R 0) := by
      rw [hMO]
      refine mach0 (M := ⟨w1, H, R, wc.heap.size, p, W, J, rb, List.replicate nL 0⟩) (Nat.le_refl _) (by show List.replicate nL 0 = List.replicate R.L.length 0; rw [HNL.out]) hb2 ?_ ?_ ?_ ?_
      · show Blk wc p #[.slice H.tA H.tN H.tC, .int .i64 R.fr, .int .i64 R.sl, .slice H.eA H.eN H.eC, .slice H.bA H.bN H.bC, .slice H.sA H.sN H.sC, .slice (some ⟨rb, 0, none⟩) R.L.length R.L.length, .slice (some ⟨W, 0, none⟩) R.L.length R.L.length, .slice (some ⟨J, 0, none⟩) R.L.length R.L.length, .slice none 0 0]
        rw [HTN.out, HFR.out, HSL.out, HNL.out]; exact kp
      · show Blk wc W (madeCells #[.slice none 0 0] R.L.length)
        rw [HNL.out]; exact kW
      · show Blk wc J (madeCells #[.int .i64 0, .int .i64 0, .int .i64 0, .bool false] (R.L.length * 4))
        rw [HNL.out]; exact kJ
      · show Blk wc rb (madeCells #[.int .i64 0] R.L.length)
        rw [HNL.out]; exact kr
    have HM0 := Lib.hid hm0; have HLAY := Lib.hid hlay; have HMO := Lib.hid hMO; have HRM := Lib.hid hrm; have HOS := Lib.hid hos; have HB1 := Lib.hid hb1; have HRL := Lib.hid hrl
    have HR1 := Lib.hid (HR.out.ext hb1)
    have HTR : Hid (RdL wc H.tA nL R.L) := Lib.hid (by have := (HR.out.t.ext hb1).ext hb2; rw [HTN.out] at this; exact this)
    have s0 := (hb2.cell (p := ⟨w.heap.size, 0, none⟩) hq0).trans r0
    clear hrk hrl hrm hos hMO hlay hm0 kp kW kJ kr h1 h2 h3 h4 h5 hb1 hmk1 hmk2 hmk3 hB1 r0 r3 r4 r5
    go_wp2_with (go_at_call 40; (with_reducible refine (schRanks_is HTR.out HRK.out).mono ?_); rintro e w3 ⟨a3, n3, c3, rfl, hown3, hb3⟩; have HO3 := Lib.hid hown3; have HB3 := Lib.hid hb3; clear hown3 hb3)
    have hn3 : n3 = nL := by rw [← (ownsI_rd HO3.out).length]; exact HRL.out
    subst hn3
    have HM3 := Lib.hid (HM0.out.ext (HLAY.out _) HB3.out)
    go_loopw [33] (fun i wr => ∃ (k : Nat) (O : List Int), k ≤ n3 ∧ i = .int .i64 k ∧ Mach (MO O) wr (plM R 0) ∧ O.length = n3 ∧ ofSet k O (rk.drop k) = ofL R.L ∧ wr.ownsRow wc.heap.size 3 1 (.slice a3 n3 c3) n3 (rk.flatMap enc1)) (fun i _ => n3 - (intOf i).toNat)
    case atStart => exact ⟨0, _, Nat.zero_le _, rfl, HM3.out, by simp, HOS.out, HO3.out⟩
    case round =>
      clear HM3 HO3 HOS HM0
      obtain ⟨k, O, hk, rfl, hM, hOl, hos, hO3⟩ := hrel
      have HMX := Lib.hid hM; have HO3 := Lib.hid hO3
      by_cases hkn : k < n3
      · obtain ⟨x, b3, o3, rfl, hb3, hc3, hx⟩ := (ownsI_rd hO3).idx k hkn
        have hxm := HRM.out x (List.mem_of_getElem? hx)
        obtain ⟨j, rfl⟩ := Int.eq_ofNat_of_zero_le hxm.1
        have hjn : j < n3 := by omega
        have hrd : rk.drop k = (j : Int) :: rk.drop (k + 1) := by obtain ⟨g1, g2⟩ := List.getElem?_eq_some_iff.1 hx; rw [List.drop_eq_getElem_cons g1, g2]
        rw [hrd] at hos
        have hos' := ofSet_step hos
        rw [Int.toNat_natCast] at hos'
        have HOS' := Lib.hid hos'
        have c6 := hM.c6
        rw [HMO.out] at c6
        simp only [] at c6
        rw [HNL.out] at c6
        obtain ⟨y, hy1, hy2⟩ := hM.rk j (by rw [HMO.out]; simp only []; rw [HNL.out]; exact hjn)
        rw [HMO.out] at hy2
        simp only [] at hy2
        have fr6 : wr.frozen? ⟨rb, j, none⟩ = false := by have := hM.fr j; rw [HMO.out] at this; exact this
        have HOL := Lib.hid hOl
        clear hM hO3 hos hos' hrd hx hy1 hxm
        go_wp2
        go_roundw
        case rel =>
          refine ⟨k + 1, O.set j (k : Int), hkn, by go_num, ?_, by simp [HOL.out], HOS'.out, ?_⟩
          · have h9 := HMX.out.rank (HLAY.out O) (k := j) (by rw [HMO.out]; simp only []; rw [HNL.out]; exact hjn) (by rw [HMO.out]; simp only []; rw [HOL.out, HNL.out]) (k : Int)
            rw [HMO.out] at h9 ⊢
            exact h9
          · have hrbK : rb < wc.heap.size := by have := (HLAY.out O).r.2; rw [HMO.out] at this; exact this
            exact owns_far HO3.out hrbK _
        case measure => simp [intOf]; omega
      · have hOf : O = ofL R.L := by
          rw [List.drop_of_length_le (by rw [HRL.out]; omega)] at hos
          exact hos
        obtain ⟨M, hMM⟩ : ∃ M, MO O = M := ⟨_, rfl⟩
        rw [hMM] at HMX
        have hl : MLay M := by rw [← hMM]; exact HLAY.out O
        have hMR : M.R = R := by rw [← hMM, HMO.out]
        have hMH : M.H = H := by rw [← hMM, HMO.out]
        have hMw : M.w0 = w1 := by rw [← hMM, HMO.out]
        have hMp : M.p = p := by rw [← hMM, HMO.out]
        have hMO2 : M.O = ofL M.R.L := by rw [hMR, ← hOf, ← hMM, HMO.out]
        have hRM : RdRun M.w0 M.H M.R := by rw [hMw, hMH, hMR]; exact HR1.out
        have hrM : RnOk M.R := by rw [hMR]; exact HRN.out
        have HL := Lib.hid hl; have HMR := Lib.hid hMR; have HMW := Lib.hid hMw; have HMP := Lib.hid hMp.symm; have HMOF := Lib.hid hMO2; have HRM2 := Lib.hid hRM; have HRNM := Lib.hid hrM
        have hKw : M.K = wc.heap.size := by rw [← hMM, HMO.out]
        have HKW := Lib.hid hKw
        clear hM hO3 hos hOf hMM hl hMR hMH hMw hMp hMO2 hRM hrM hKw
        obtain ⟨PP, hPP⟩ : ∃ x, x = p := ⟨_, rfl⟩
        obtain rfl : p = M.p := HMP.out
        clear hPP
        go_wp2
        go_loopw [47] (fun i wx => ∃ k : Nat, k ≤ ticks ∧ i = .int .i64 k ∧ Mach M wx (plM R k)) (fun i _ => ticks - (intOf i).toNat)
        case atStart => exact ⟨0, Nat.zero_le _, rfl, HMX.out⟩
        case round =>
          clear HMX
          obtain ⟨k, hk, rfl, hM⟩ := hrel
          have HM := Lib.hid hM
          have hmok : MOk M.R (plM R k) := by rw [HMR.out]; exact plM_ok HRN.out k
          by_cases hkt : k < ticks
          · obtain ⟨SA, hSA⟩ : ∃ x, arrA R (k : Int) (plM R k) = x := ⟨_, rfl⟩
            have hko := plM_o HRN.out k
            have HARR : Hid (Calls Tryz.prog 41 #[.pointer (some ⟨M.p, 0, none⟩), .int .i64 (k : Int)] wr fun e w' => e = .returned (.tuple #[]) ∧ Mach M w' SA) := Lib.hid (by
              have := arrivals_any (t := k) hM HL.out HRM2.out HRNM.out hmok HMOF.out (fun x => by rw [HMR.out]; exact Nat.le_trans (rel_small HRN.out k x) (by omega)) (by omega) (by omega)
              rw [HMR.out, hSA] at this
              exact this)
            have hokA : MOk M.R SA := by rw [← hSA, HMR.out]; exact (plM_ok HRN.out k).arrA HRN.out _
            have hoA : SA.o.length ≤ 1000000 := by rw [← hSA]; have := arrA_o HRN.out (k : Int) (plM R k); omega
            have hqA : ∀ x, (SA.qa x).length ≤ 100 := fun x => by rw [← hSA]; exact Nat.le_trans (arr_small HRN.out k x) (by omega)
            have hdA : ∀ x, (SA.ja x).d ≤ 10000 := fun x => by rw [← hSA]; exact Nat.le_trans (arr_d HRN.out k x) (by omega)
            have hnx : plM R (k + 1) = tckB R (k : Int) SA := by rw [plM, tckA, hSA]
            have hf1 := HRN.out.f
            rw [HFR.out] at hf1
            obtain ⟨f, hf⟩ := Int.eq_ofNat_of_zero_le (show 0 ≤ fr by omega)
            obtain ⟨r, hr2⟩ : ∃ r, k % f = r := ⟨_, rfl⟩
            have hmod : (k : Int) % (f : Int) = (r : Int) := by rw [← hr2]; simp
            have hf0 : (0 : Int) < (f : Int) := by omega
            have hcond : tckB R (k : Int) SA = if (r : Int) < sl_ then SA.wr ⟨k, -1, 3, 0, 0⟩ else if 0 ≤ chM R.L SA then wkA R k (chM R.L SA).toNat SA else SA := by
              unfold tckB; rw [HFR.out, HSL.out, hf, hmod]
            have HOKA := Lib.hid hokA; have HOA := Lib.hid hoA; have HQA := Lib.hid hqA; have HDA := Lib.hid hdA
            have HNX := Lib.hid (hnx.trans hcond)
            have r1' : w1.cell? ⟨w.heap.size, 1, none⟩ = some (.int .i64 (f : Int)) := by rw [r1, hf]
            have HC1 : Hid (∀ wx, Below M.w0.heap.size M.w0 wx → wx.cell? ⟨w.heap.size, 1, none⟩ = some (.int .i64 (f : Int)) ∧ wx.cell? ⟨w.heap.size, 2, none⟩ = some (.int .i64 sl_)) := Lib.hid (fun wx h => by
              rw [HMW.out] at h
              exact ⟨(h.cell (p := ⟨w.heap.size, 1, none⟩) hq0).trans r1', (h.cell (p := ⟨w.heap.size, 2, none⟩) hq0).trans r2⟩)
            clear hM hmok hko hokA hoA hqA hdA hnx hf1 hf hr2 hcond hSA r1'
            by_cases hcol : (r : Int) < sl_
            · have hcol' : decide ((r : Int) < sl_) = true := by simpa using hcol
              have HNX2 : Hid (plM R (k + 1) = SA.wr ⟨k, -1, 3, 0, 0⟩) := Lib.hid (by rw [HNX.out, if_pos hcol])
              go_wp2_with (go_at_call 41; (with_reducible refine HARR.out.mono ?_); rintro e w4 ⟨rfl, hM4⟩; obtain ⟨d1, d2⟩ := HC1.out w4 hM4.lb; have HM4 := Lib.hid hM4; clear hM4)
              go_region
              all_goals
                have HM5 := Lib.hid (HM4.out.ext HL.out (Below.refl w4.heap.size w4).drew)
                go_wp2_with (go_at_call 42; (with_reducible refine (write_any HL.out HM5.out (by have := HOA.out; omega) _ _ _ _ _).mono ?_); rintro e w5 ⟨rfl, hM6⟩; have HM6 := Lib.hid hM6; clear hM6)
                go_roundw
                case rel => exact ⟨k + 1, hkt, by go_num, by rw [HNX2.out]; exact HM6.out⟩
                case measure => simp [intOf]; omega
            · have hcol' : decide ((r : Int) < sl_) = false := by simpa using hcol
              obtain ⟨c, hc⟩ : ∃ c, chM R.L SA = c := ⟨_, rfl⟩
              have HNX2 : Hid (plM R (k + 1) = if 0 ≤ c then wkA R k c.toNat SA else SA) := Lib.hid (by rw [HNX.out, if_neg hcol, hc])
              obtain ⟨g1, g2, g3, g4⟩ := chM_spec R.L SA
              rw [hc] at g1 g2 g3 g4
              have HCH : Hid (∀ wx, Mach M wx SA → Calls Tryz.prog 43 #[.pointer (some ⟨M.p, 0, none⟩)] wx fun e w' => e = .returned (.int .i64 c) ∧ Below wx.heap.size wx w') := Lib.hid (fun wx h => by
                have := choice_any h HL.out HRM2.out HRNM.out HOKA.out HMOF.out
                rw [HMR.out, hc] at this
                exact this)
              have G4 := Lib.hid g4
              clear g3 g4 hc
              by_cases hc0 : 0 ≤ c
              · obtain ⟨cn, rfl⟩ := Int.eq_ofNat_of_zero_le hc0
                rw [if_pos hc0, Int.toNat_natCast] at HNX2
                have hcL : cn < M.R.L.length := by rw [HMR.out]; omega
                have hne := G4.out hc0
                rw [Int.toNat_natCast] at hne
                have HNE := Lib.hid hne
                have hc0' : decide ((0 : Int) ≤ (cn : Int)) = true := by simp
                clear hne g1 g2
                go_wp2_with (go_at_call 41; (with_reducible refine HARR.out.mono ?_); rintro e w4 ⟨rfl, hM4⟩; obtain ⟨d1, d2⟩ := HC1.out w4 hM4.lb; have HM4 := Lib.hid hM4; clear hM4)
                go_region
                all_goals
                  have HM5 := Lib.hid (HM4.out.ext HL.out (Below.refl w4.heap.size w4).drew)
                  go_wp2_with (first
                    | (go_at_call 43; (with_reducible refine (HCH.out _ HM5.out).mono ?_); rintro e w5 ⟨rfl, hb5⟩; have HM6 := Lib.hid (HM5.out.ext HL.out hb5); clear hb5)
                    | (go_at_call 44; (with_reducible refine (work_any HM6.out HL.out HRM2.out HRNM.out HOKA.out hcL HNE.out (HQA.out cn) HOA.out (by omega) (HDA.out cn)).mono ?_); rintro e w6 ⟨rfl, hM7⟩; have HM7 := Lib.hid hM7; clear hM7))
                  go_roundw
                  case rel => exact ⟨k + 1, hkt, by go_num, by have := HM7.out; rw [HMR.out] at this; rw [HNX2.out]; exact this⟩
                  case measure => simp [intOf]; omega
              · rw [if_neg hc0] at HNX2
                have hcm : c = -1 := by omega
                subst hcm
                clear g1 g2 hc0
                go_wp2_with (go_at_call 41; (with_reducible refine HARR.out.mono ?_); rintro e w4 ⟨rfl, hM4⟩; obtain ⟨d1, d2⟩ := HC1.out w4 hM4.lb; have HM4 := Lib.hid hM4; clear hM4)
                go_region
                all_goals
                  have HM5 := Lib.hid (HM4.out.ext HL.out (Below.refl w4.heap.size w4).drew)
                  go_wp2_with (go_at_call 43; (with_reducible refine (HCH.out _ HM5.out).mono ?_); rintro e w5 ⟨rfl, hb5⟩; have HM6 := Lib.hid (HM5.out.ext HL.out hb5); clear hb5)
                  go_roundw
                  case rel => exact ⟨k + 1, hkt, by go_num, by rw [HNX2.out]; exact HM6.out⟩
                  case measure => simp [intOf]; omega
          · have hke : k = ticks := by omega
            obtain ⟨a9, m9, c9', g9, g10⟩ := hM.en
            have hlb : Below w.heap.size w wr := HB1.out.trans ((show Below w1.heap.size w1 wr by rw [← HMW.out]; exact hM.lb).mono HB1.out.size)
            have G10 : Hid (wr.ownsRow w.heap.size 58 5 (.slice a9 m9 c9') m9 ((plM R ticks).o.flatMap encE)) := Lib.hid (by rw [← hke]; exact owns_mono g10 (by rw [HKW.out]; exact Nat.le_of_lt hq1))
            have HLB := Lib.hid hlb
            clear hM g10 hke hlb hmok
            go_wp2
            go_ret
            exact ⟨_, _, _, rfl, G10.out, HLB.out⟩
end Go.Proofs.YtlhnhmimhpcoaaaGreat
