/- The contract of ease of the law's package. The conditions: the tasks read as named and are valid. -/
import Derived.Test.YtabbmnnohnfbeaaRsEased
import Derived.BigRegion
namespace Go.Proofs.Ytabbmnnohnfbeaa
open Go.RowKit
set_option linter.unusedSimpArgs false
set_option linter.unusedVariables false
theorem EasedL.bd {L K : List Ta} (h : EasedL L K) (hv : ValidT L) {u : Ta} (hu : u ∈ K) : (0 ≤ u.gap ∧ u.gap ≤ 10000) ∧ (0 ≤ u.first ∧ u.first ≤ 10000) ∧ (0 ≤ u.jit ∧ u.jit ≤ 10000) ∧ (0 ≤ u.dl ∧ u.dl ≤ 10000) ∧ u.pcs.length ≤ 8 ∧ ∀ p ∈ u.pcs, 1 ≤ p.1 ∧ p.1 ≤ 200 := by
  obtain ⟨t, ht, e⟩ := h.mem hu
  have h1 := hv.gap t ht; have h2 := hv.dl t ht; have h3 := hv.first t ht; have h4 := hv.jit t ht; have h5 := hv.r.pcs t ht
  have := e.first; have := e.gap; have := e.jit; have := e.dl; have := e.pl
  refine ⟨by omega, by omega, by omega, by omega, by omega, fun p hp => ?_⟩
  obtain ⟨i, hi⟩ := List.getElem?_of_mem hp
  have hlt := (List.getElem?_eq_some_iff.1 hi).1
  rw [e.pl] at hlt
  have h6 := e.pc i _ p (List.getElem?_eq_getElem hlt) hi
  have h7 := hv.r.piece t ht _ (List.getElem_mem hlt)
  omega
theorem Eased.gap' {t u : Ta} (h : Eased t u) {m : Int} (hm : 0 ≤ m) : Eased t { u with gap := min 10000 (u.gap + m) } :=
  ⟨h.pri, h.first, ⟨by have := h.gap; simp only []; omega, by simp only []; omega⟩, h.jit, ⟨h.dl.1, by have := h.gap; have := h.dl; simp only []; omega⟩, h.pl, h.pc⟩
theorem Eased.first' {t u : Ta} (h : Eased t u) {m : Int} (hm : 0 ≤ m) : Eased t { u with first := min 10000 (u.first + m) } :=
  ⟨h.pri, ⟨by have := h.first; simp only []; omega, by simp only []; omega⟩, h.gap, h.jit, h.dl, h.pl, h.pc⟩
theorem Eased.jit' {t u : Ta} (h : Eased t u) {m : Int} (hm : 0 ≤ m) : Eased t { u with jit := max 0 (u.jit - m) } :=
  ⟨h.pri, h.first, h.gap, ⟨by simp only []; omega, by have := h.jit; simp only []; omega⟩, h.dl, h.pl, h.pc⟩
theorem Eased.dl' {t u : Ta} (h : Eased t u) {m : Int} (hm : 0 ≤ m) : Eased t { u with dl := min u.gap (u.dl + m) } :=
  ⟨h.pri, h.first, h.gap, h.jit, ⟨by have := h.dl; simp only []; omega, by simp only []; omega⟩, h.pl, h.pc⟩
theorem Eased.pc' {t u : Ta} (h : Eased t u) {m : Int} (hm : 0 ≤ m) {j : Nat} {p : P2} (hp : u.pcs[j]? = some p) : Eased t { u with pcs := u.pcs.set j (max 1 (p.1 - m), p.2) } := by
  refine ⟨h.pri, h.first, h.gap, h.jit, h.dl, by simp only [List.length_set]; exact h.pl, fun i a b h1 h2 => ?_⟩
  simp only [List.getElem?_set] at h2
  split at h2
  · rename_i e; subst e
    split at h2
    · simp at h2; subst h2
      have := h.pc _ a p h1 hp
      simp only []; omega
    · simp at h2
  · exact h.pc i a b h1 h2
theorem set_get {α : Type} {g : List α} {k : Nat} {x y : α} (h : g[k]? = some x) : (g.set k y)[k]? = some y := by
  have := (List.getElem?_eq_some_iff.1 h).1
  rw [List.getElem?_set_self this]
theorem map_get {g : List TaV} {k : Nat} {t : TaV} (h : g[k]? = some t) : (g.map TaV.ta)[k]? = some t.ta := by rw [List.getElem?_map, h]; rfl
theorem EasedL.setV {L : List Ta} {g : List TaV} (h : EasedL L (g.map TaV.ta)) {k : Nat} {v : TaV} (v' : TaV) (hk : g[k]? = some v) (hs : ∀ t, Eased t v.ta → Eased t v'.ta) : EasedL L ((g.set k v').map TaV.ta) := by
  rw [set_map]; exact h.set (map_get hk) hs
def OutEased (w : World) (n : Nat) (L : List Ta) (e : Ending) (w' : World) : Prop :=
  ∃ a c K, e = .returned (.slice a n c) ∧ RdL w' a n K ∧ EasedL L K ∧ Below w.heap.size w w'
set_option maxRecDepth 100000 in
set_option maxHeartbeats 8000000 in
theorem ease_any (a : Option Addr) (n c : Nat) (L : List Ta) (b : Option Addr) (m d : Nat) (xs : List E5) (w : World) (hL : RdL w a n L) (hN : NilOk a n c) (hv : ValidT L) (hX : Rd w b m 5 (xs.map enc5)) :
    Calls Try.prog 43 #[.slice a n c, .slice b m d] w (OutEased w n L) := by
  have hn : n ≤ 5 := by rw [← hL.length]; exact hv.r.len
  have hp : ∀ t ∈ L, t.pcs.length ≤ 1000 := fun t ht => by have := (hv.r.pcs t ht).2; omega
  have HR := Lib.hid hL; have HP := Lib.hid hp; have HV := Lib.hid hv; have HX := Lib.hid hX; have HN := Lib.hid hN
  have hms := hX.small
  clear hL hp hv hX hN
  go_enter Try.func43, Try.ntmps43
  go_wp2_with (go_at_call 29; (with_reducible refine (copied_M _ _ _ L (by omega) HP.out _ HR.out HN.out).mono ?_); rintro e w1 ⟨a1, c1, g1, rfl, hm1, hg1, hb1⟩; have HM1 := Lib.hid hm1; have HG1 := Lib.hid hg1; have B1 := Lib.hid hb1; clear hm1 hb1 hg1)
  go_loopw [6] (fun i wr => ∃ (k : Nat) (g : List TaV), k ≤ n ∧ i = .int .i64 k ∧ MutT w.heap.size wr a1 n c1 g ∧ EasedL L (g.map TaV.ta) ∧ Below w.heap.size w wr) (fun i _ => n - (intOf i).toNat)
  case atStart => exact ⟨0, g1, Nat.zero_le _, rfl, HM1.out, by rw [HG1.out]; exact EasedL.refl HV.out, B1.out⟩
  case round =>
    obtain ⟨k, g, hk, rfl, hm, he, hB⟩ := hrel
    have HM := Lib.hid hm; have HE := Lib.hid he; have HB := Lib.hid hB
    have hgl := hm.rd.length
    clear hm he hB HM1 HG1 B1
    by_cases hlt : k < n
    · by_cases hlm : k < m
      · obtain ⟨q, rfl, hq1, hq2⟩ := HM.out.addr (by omega)
        obtain ⟨x, b1, o1, rfl, hb1, x0, x1, x2, x3, x4⟩ := (HX.out.ext HB.out).ease k hlm
        obtain ⟨t, ht⟩ : ∃ t, g[k]? = some t := ⟨_, List.getElem?_eq_getElem (by omega)⟩
        obtain ⟨c0, f0⟩ := HM.out.at_ ht 0 (by omega)
        obtain ⟨c1', f1⟩ := HM.out.at_ ht 1 (by omega)
        obtain ⟨c2, f2⟩ := HM.out.at_ ht 2 (by omega)
        obtain ⟨c3, f3⟩ := HM.out.at_ ht 3 (by omega)
        obtain ⟨c4, f4⟩ := HM.out.at_ ht 4 (by omega)
        obtain ⟨c5, f5⟩ := HM.out.at_ ht 5 (by omega)
        obtain ⟨pri, dl, fi, ga, ji, ta, tn, tc, ps⟩ := t
        simp [encTa] at c0 c1' c2 c3 c4 c5
        obtain ⟨y0, y1, y2, y3, y4⟩ := x
        simp only [] at x0 x1 x2 x3 x4
        obtain ⟨m0, e0, hm0⟩ := mask255 y0
        obtain ⟨m1, e1, hm1⟩ := mask4095 y1
        obtain ⟨m2, e2, hm2⟩ := mask4095 y2
        obtain ⟨m3, e3, hm3⟩ := mask4095 y3
        obtain ⟨m4, e4, hm4⟩ := mask4095 y4
        have HT := Lib.hid ht
        clear ht
        have hvt : (0 ≤ ga ∧ ga ≤ 10000) ∧ (0 ≤ fi ∧ fi ≤ 10000) ∧ (0 ≤ ji ∧ ji ≤ 10000) ∧ (0 ≤ dl ∧ dl ≤ 10000) ∧ ps.length ≤ 8 ∧ ∀ p ∈ ps, 1 ≤ p.1 ∧ p.1 ≤ 200 := EasedL.bd HE.out HV.out (u := TaV.ta ⟨pri, dl, fi, ga, ji, ta, tn, tc, ps⟩) (List.mem_map_of_mem (List.mem_of_getElem? HT.out))
        obtain ⟨hv1, hv2, hv3, hv4, hv5, hv6⟩ := hvt
        have HV6 := Lib.hid hv6
        clear hv6
        have s3 : IntKind.i64.wrap (ga + m3) = ga + m3 := IntWalk.i64_in _ (by omega)
        have s2 : IntKind.i64.wrap (fi + m2) = fi + m2 := IntWalk.i64_in _ (by omega)
        have s4 : IntKind.i64.wrap (ji - m4) = ji - m4 := IntWalk.i64_in _ (by omega)
        have s1 : IntKind.i64.wrap (dl + m1) = dl + m1 := IntWalk.i64_in _ (by omega)
        obtain ⟨G, hG⟩ : ∃ x, min 10000 (ga + m3) = x := ⟨_, rfl⟩
        obtain ⟨I, hI⟩ : ∃ x, min 10000 (fi + m2) = x := ⟨_, rfl⟩
        obtain ⟨J, hJ⟩ : ∃ x, max 0 (ji - m4) = x := ⟨_, rfl⟩
        obtain ⟨D, hD⟩ : ∃ x, min G (dl + m1) = x := ⟨_, rfl⟩
        have n1 : ¬ b1 = wr.heap.size := by omega
        have n2 : ¬ q = wr.heap.size := by omega
        go_wp2_with fail
        go_region
        go_wp2_with fail
        go_region
        go_wp2_with fail
        go_region
        go_wp2_with fail
        go_region
        go_wp2_with fail
        have hlow : ∀ x o, ta = some ⟨x, o, none⟩ → x < wr.heap.size := fun x o e => (PcO.low (HM.out.own.ok _ (List.mem_of_getElem? HT.out)) x (by unfold TaV.blk; simp only []; rw [e]; rfl)).2
        have HLOW := Lib.hid hlow
        clear hlow
        have hk1 := HT.out
        have M1 := HM.out.set (t' := ⟨pri, dl, fi, G, ji, ta, tn, tc, ps⟩) hk1 3 (by omega) (.int .i64 G) rfl rfl rfl rfl rfl
        have E1 := HE.out.setV ⟨pri, dl, fi, G, ji, ta, tn, tc, ps⟩ hk1 (fun t h => by subst hG; exact h.gap' (m := m3) hm3.1)
        have hk2 := set_get (y := (⟨pri, dl, fi, G, ji, ta, tn, tc, ps⟩ : TaV)) hk1
        have M2 := M1.set (t' := ⟨pri, dl, I, G, ji, ta, tn, tc, ps⟩) hk2 2 (by omega) (.int .i64 I) rfl rfl rfl rfl rfl
        have E2 := E1.setV ⟨pri, dl, I, G, ji, ta, tn, tc, ps⟩ hk2 (fun t h => by subst hI; exact h.first' (m := m2) hm2.1)
        have hk3 := set_get (y := (⟨pri, dl, I, G, ji, ta, tn, tc, ps⟩ : TaV)) hk2
        have M3 := M2.set (t' := ⟨pri, dl, I, G, J, ta, tn, tc, ps⟩) hk3 4 (by omega) (.int .i64 J) rfl rfl rfl rfl rfl
        have E3 := E2.setV ⟨pri, dl, I, G, J, ta, tn, tc, ps⟩ hk3 (fun t h => by subst hJ; exact h.jit' (m := m4) hm4.1)
        have hk4 := set_get (y := (⟨pri, dl, I, G, J, ta, tn, tc, ps⟩ : TaV)) hk3
        have M4 := M3.set (t' := ⟨pri, D, I, G, J, ta, tn, tc, ps⟩) hk4 1 (by omega) (.int .i64 D) rfl rfl rfl rfl rfl
        have E4 := E3.setV ⟨pri, D, I, G, J, ta, tn, tc, ps⟩ hk4 (fun t h => by subst hD; exact h.dl' (m := m1) hm1.1)
        have hk5 := set_get (y := (⟨pri, D, I, G, J, ta, tn, tc, ps⟩ : TaV)) hk4
        have hpl : ps.length = tn := by have := (HM.out.rd.ok _ (List.mem_of_getElem? hk1)).1.length; simpa using this
        have M4' : MutT w.heap.size ((((wr.setCell ⟨q, k * 6 + 2 + 1, none⟩ (.int .i64 G)).setCell ⟨q, k * 6 + 2, none⟩ (.int .i64 I)).setCell ⟨q, k * 6 + 2 + 2, none⟩ (.int .i64 J)).setCell ⟨q, k * 6 + 1, none⟩ (.int .i64 D)) (some ⟨q, 0, none⟩) n c1 _ := M4
        have HBW' : Below w.heap.size w ((((wr.setCell ⟨q, k * 6 + 2 + 1, none⟩ (.int .i64 G)).setCell ⟨q, k * 6 + 2, none⟩ (.int .i64 I)).setCell ⟨q, k * 6 + 2 + 2, none⟩ (.int .i64 J)).setCell ⟨q, k * 6 + 1, none⟩ (.int .i64 D)) := (((HB.out.setCell hq1 _).setCell hq1 _).setCell hq1 _).setCell hq1 _
        have HM4 := Lib.hid M4'; have HE4 := Lib.hid E4; have HK5 := Lib.hid hk5
        have HBW := Lib.hid HBW'
        clear M4' HBW' hG hI hJ hD M1 M2 M3 M4 E1 E2 E3 E4 hk1 hk2 hk3 hk4 hk5 HT
        rename World => W1
        go_loopw [8] (fun i wr => ∃ (j : Nat) (g : List TaV) (t : TaV), j ≤ tn ∧ i = .int .i64 j ∧ MutT w.heap.size wr (some ⟨q, 0, none⟩) n c1 g ∧ EasedL L (g.map TaV.ta) ∧ g[k]? = some t ∧ t.a = ta ∧ t.n = tn ∧ t.c = tc ∧ wr.cell? ⟨W1.heap.size, 0, none⟩ = some (.int .i64 y0) ∧ W1.heap.size < wr.heap.size ∧ Below w.heap.size w wr) (fun i _ => tn - (intOf i).toNat)
        case atStart =>
          refine ⟨0, _, _, Nat.zero_le _, rfl, HM4.out.ext ?_, HE4.out, HK5.out, rfl, rfl, rfl, by simp [go_sem], by simp, Below.then HBW.out ?_⟩ <;> (repeat' (first | (with_reducible exact Below.refl _ _) | (with_reducible assumption) | (with_reducible refine Below.alloc ?_ ?_ _) | (with_reducible refine Below.drew ?_) | (with_reducible refine Below.draws ?_ _) | (with_reducible refine Below.setCell ?_ ?_ _) | (refine Below.then ?_ (by with_reducible assumption)) | go_size))
        case round =>
          obtain ⟨j, g2, t2, hj, rfl, hm, he, hk2, ha2, hn2, hc2, hbx, hbl, hB⟩ := hrel
          have HM2 := Lib.hid hm; have HE2 := Lib.hid he; have HB2 := Lib.hid hB; have HK2 := Lib.hid hk2
          clear hm he hB HM4 HE4 HK5 c0 c1' c2 c3 c4 c5 f0 f1 f2 f3 f4 f5 x0 x1 x2 x3 x4
          obtain ⟨p2, d2, fi2, ga2, ji2, ta', tn', tc', ps2⟩ := t2
          simp only [] at ha2 hn2 hc2
          subst ha2; subst hn2; subst hc2
          obtain ⟨z5, g5⟩ := HM2.out.at_ HK2.out 5 (by omega)
          simp [encTa] at z5
          have hq2' : q < wr.heap.size := by obtain ⟨q', e, _, h⟩ := HM2.out.addr (by omega); simp at e; omega
          by_cases hjt : j < tn'
          · obtain ⟨pq, rfl, hp1, hp2, hpb⟩ := (HM2.out.own.ok _ (List.mem_of_getElem? HK2.out)).addr (show 0 < tn' by omega)
            have hl2 : ps2.length = tn' := by have := (HM2.out.rd.ok _ (List.mem_of_getElem? HK2.out)).1.length; simpa using this
            obtain ⟨p, hpj⟩ : ∃ p, ps2[j]? = some p := ⟨_, List.getElem?_eq_getElem (by omega)⟩
            obtain ⟨d0, e0'⟩ := HM2.out.piece HK2.out rfl hpj 0 (by omega)
            obtain ⟨d1, e1'⟩ := HM2.out.piece HK2.out rfl hpj 1 (by omega)
            have hpr : 1 ≤ p.1 ∧ p.1 ≤ 200 := (EasedL.bd HE2.out HV.out (u := TaV.ta ⟨p2, d2, fi2, ga2, ji2, some ⟨pq, 0, none⟩, tn', tc', ps2⟩) (List.mem_map_of_mem (List.mem_of_getElem? HK2.out))).2.2.2.2.2 p (List.mem_of_getElem? hpj)
            obtain ⟨pt, pl⟩ := p
            simp [enc2] at d0 d1
            simp only [Nat.add_zero] at e0'
            simp only [] at hpr
            have s0 : IntKind.i64.wrap (pt - m0) = pt - m0 := IntWalk.i64_in _ (by omega)
            have HPJ := Lib.hid hpj
            clear hpj
            obtain ⟨T, hT⟩ : ∃ x, max 1 (pt - m0) = x := ⟨_, rfl⟩
            have n3 : ¬ pq = W1.heap.size := by
              have := HLOW.out _ _ rfl
              omega
            go_wp2_with fail
            go_region
            go_wp2_with fail
            go_roundw
            case rel =>
              have M : MutT w.heap.size (wr.setCell ⟨pq, j * 2, none⟩ (.int .i64 T)) (some ⟨q, 0, none⟩) n c1 (g2.set k ⟨p2, d2, fi2, ga2, ji2, some ⟨pq, 0, none⟩, tn', tc', ps2.set j (T, pl)⟩) := HM2.out.setP (t' := ⟨p2, d2, fi2, ga2, ji2, some ⟨pq, 0, none⟩, tn', tc', ps2.set j (T, pl)⟩) HK2.out rfl HPJ.out 0 (by omega) (.int .i64 T) (p' := (T, pl)) rfl rfl
              have E := HE2.out.setV ⟨p2, d2, fi2, ga2, ji2, some ⟨pq, 0, none⟩, tn', tc', ps2.set j (T, pl)⟩ HK2.out (fun t h => by subst hT; exact h.pc' (m := m0) hm0.1 HPJ.out)
              refine ⟨j + 1, _, ⟨p2, d2, fi2, ga2, ji2, some ⟨pq, 0, none⟩, tn', tc', ps2.set j (T, pl)⟩, by omega, by go_num, M.ext ?_, E, set_get HK2.out, rfl, rfl, rfl, ?_, ?_, ?_⟩
              · (repeat' (first | (with_reducible exact Below.refl _ _) | (with_reducible assumption) | (with_reducible refine Below.alloc ?_ ?_ _) | (with_reducible refine Below.drew ?_) | (with_reducible refine Below.draws ?_ _) | (with_reducible refine Below.setCell ?_ ?_ _) | (refine Below.then ?_ (by with_reducible assumption)) | go_size))
              · simp [go_sem, *]
              · simpa using hbl
              · exact (HB2.out.setCell hp1 _).drew
            case measure => simp [intOf]; omega
          · go_wp2_with fail
            go_roundw
            case rel => exact ⟨k + 1, g2, by omega, by go_num, HM2.out, HE2.out, HB2.out⟩
            case measure => simp [intOf]; omega
      · go_wp2_with fail
        go_ret
        exact ⟨_, _, _, rfl, HM.out.rdL, HE.out, HB.out⟩
    · go_wp2_with fail
      go_ret
      exact ⟨_, _, _, rfl, HM.out.rdL, HE.out, HB.out⟩
end Go.Proofs.Ytabbmnnohnfbeaa
