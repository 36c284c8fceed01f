/- copied and ordered of both sides. The conditions: the tasks read as named and are few. -/
import Derived.Test.YtabbmnnohnfbeaaTkMut
import Derived.Test.YtabbmnnohnfbeaaAsLib2
import Derived.Test.YtabbmnnohnfbeaaAsPure
import Derived.BigRegion
namespace Go.Proofs.Ytabbmnnohnfbeaa
open Go.RowKit
set_option linter.unusedSimpArgs false
set_option linter.unusedVariables false
theorem cloneTk_any (a : Option Addr) (n c : Nat) (xs : List TaV) (w : World) (hn : n ≤ 1000) (hR : Rd w a n 6 (xs.map encTa)) (h0 : n = 0 → (a = none ∧ c = 0) ∨ ∃ ad, a = some ad) :
    Calls Try.prog 146 #[.slice a n c] w (OutN w.heap.size n 52 6 w (xs.flatMap encTa)) := by
  have hl := hR.length
  rcases a with _ | ad
  · obtain rfl : n = 0 := by
      rcases Nat.eq_zero_or_pos n with q | q
      · exact q
      · obtain ⟨b, off, q2, _⟩ := hR.at_ q; simp at q2
    rcases h0 rfl with ⟨_, rfl⟩ | ⟨ad, q⟩
    · obtain rfl : xs = [] := List.length_eq_zero_iff.1 hl
      have heq := Lib.run_eql_slice_nil (P := Try.prog) w 22 52 none 0 0 0 0 Try.underlying22
      go_enter Try.func146, Try.ntmps146
      go_wp2
      go_ret
      exact ⟨_, _, rfl, World.ownsRow_nil _ _ _ _, Below.refl _ _⟩
    · simp at q
  · have HR := Lib.hid hR
    have e1 := ETk
    have HOW : Hid ((w.alloc (.cells #[] 52)).ownsRow w.heap.size 52 6 (.slice (some ⟨w.heap.size, 0, none⟩) 0 0) 0 []) := Lib.hid (World.ownsRow_lit w #[] 0 (Nat.le_refl _) (by decide) rfl)
    have heq := Lib.run_eql_slice_nil (P := Try.prog) w 22 52 (some ad) n c 0 0 Try.underlying22
    clear hR hl h0
    go_enter Try.func146, Try.ntmps146
    go_wp2_with (at_builtin; refine wpList_pushAll (B := w.heap.size) (n := 0) (xs := []) rfl _ _ _ rfl e1 encTa_len encTa_one rfl HOW.out rfl (HR.out.ext (by (repeat' (first | (with_reducible exact Below.refl _ _) | (with_reducible assumption) | (with_reducible refine Below.alloc ?_ ?_ _) | (with_reducible refine Below.drew ?_) | (with_reducible refine Below.draws ?_ _) | (with_reducible refine Below.setCell ?_ ?_ _) | (refine Below.then ?_ (by with_reducible assumption)) | go_size)))) (fun _ => .inr ⟨_, rfl⟩) (by omega) (by decide) (by simp) ?_; intro v2 w2 hown2 hv2 hb2)
    rw [Nat.zero_add, List.nil_append] at hown2
    obtain ⟨a', c', rfl⟩ := hv2
    rw [Nat.zero_add] at hown2 ⊢
    go_ret
    exact ⟨_, _, rfl, hown2, Below.trans (by (repeat' (first | (with_reducible exact Below.refl _ _) | (with_reducible assumption) | (with_reducible refine Below.alloc ?_ ?_ _) | (with_reducible refine Below.drew ?_) | (with_reducible refine Below.draws ?_ _) | (with_reducible refine Below.setCell ?_ ?_ _) | (refine Below.then ?_ (by with_reducible assumption)) | go_size))) hb2⟩
theorem clonePc_any (a : Option Addr) (n c : Nat) (xs : List P2) (w : World) (hn : n ≤ 1000) (hR : Rd w a n 2 (xs.map enc2)) (h0 : n = 0 → (a = none ∧ c = 0) ∨ ∃ ad, a = some ad) :
    Calls Try.prog 147 #[.slice a n c] w (OutN w.heap.size n 62 2 w (xs.flatMap enc2)) := by
  have hl := hR.length
  rcases a with _ | ad
  · obtain rfl : n = 0 := by
      rcases Nat.eq_zero_or_pos n with q | q
      · exact q
      · obtain ⟨b, off, q2, _⟩ := hR.at_ q; simp at q2
    rcases h0 rfl with ⟨_, rfl⟩ | ⟨ad, q⟩
    · obtain rfl : xs = [] := List.length_eq_zero_iff.1 hl
      have heq := Lib.run_eql_slice_nil (P := Try.prog) w 50 62 none 0 0 0 0 Try.underlying50
      go_enter Try.func147, Try.ntmps147
      go_wp2
      go_ret
      exact ⟨_, _, rfl, World.ownsRow_nil _ _ _ _, Below.refl _ _⟩
    · simp at q
  · have HR := Lib.hid hR
    have e1 := EPc
    have HOW : Hid ((w.alloc (.cells #[] 62)).ownsRow w.heap.size 62 2 (.slice (some ⟨w.heap.size, 0, none⟩) 0 0) 0 []) := Lib.hid (World.ownsRow_lit w #[] 0 (Nat.le_refl _) (by decide) rfl)
    have heq := Lib.run_eql_slice_nil (P := Try.prog) w 50 62 (some ad) n c 0 0 Try.underlying50
    clear hR hl h0
    go_enter Try.func147, Try.ntmps147
    go_wp2_with (at_builtin; refine wpList_pushAll (B := w.heap.size) (n := 0) (xs := []) rfl _ _ _ rfl e1 enc2_len enc2_one rfl HOW.out rfl (HR.out.ext (by (repeat' (first | (with_reducible exact Below.refl _ _) | (with_reducible assumption) | (with_reducible refine Below.alloc ?_ ?_ _) | (with_reducible refine Below.drew ?_) | (with_reducible refine Below.draws ?_ _) | (with_reducible refine Below.setCell ?_ ?_ _) | (refine Below.then ?_ (by with_reducible assumption)) | go_size)))) (fun _ => .inr ⟨_, rfl⟩) (by omega) (by decide) (by simp) ?_; intro v2 w2 hown2 hv2 hb2)
    rw [Nat.zero_add, List.nil_append] at hown2
    obtain ⟨a', c', rfl⟩ := hv2
    rw [Nat.zero_add] at hown2 ⊢
    go_ret
    exact ⟨_, _, rfl, hown2, Below.trans (by (repeat' (first | (with_reducible exact Below.refl _ _) | (with_reducible assumption) | (with_reducible refine Below.alloc ?_ ?_ _) | (with_reducible refine Below.drew ?_) | (with_reducible refine Below.draws ?_ _) | (with_reducible refine Below.setCell ?_ ?_ _) | (refine Below.then ?_ (by with_reducible assumption)) | go_size))) hb2⟩
theorem ownsT_at {w : World} {B q n c : Nat} {g : List TaV} (h : w.ownsRow B 52 6 (.slice (some ⟨q, 0, none⟩) n c) n (g.flatMap encTa)) {k : Nat} {t : TaV} (hk : g[k]? = some t) (j : Nat) (hj : j < 6) : w.cell? ⟨q, k * 6 + j, none⟩ = (encTa t)[j]? := by
  obtain ⟨hi, rfl⟩ := List.getElem?_eq_some_iff.1 hk
  have hl := (Rd.of_owns encTa_len (by decide) h).length
  have : (k + 1) * 6 ≤ n * 6 := Nat.mul_le_mul_right 6 (by omega)
  rw [h.cellAt (k * 6 + j) (by omega), flat_get encTa_len g k j hi hj]
set_option maxRecDepth 100000 in
set_option maxHeartbeats 4000000 in
theorem pcopied_M (a : Option Addr) (n c : Nat) (L : List Ta) (hn : n ≤ 1000) (hP : ∀ t ∈ L, t.pcs.length ≤ 1000) (w : World) (hL : RdL w a n L) (hN : NilOk a n c) :
    Calls Try.prog 129 #[.slice a n c] w (OutM w n L) := by
  obtain ⟨g, hG, rfl⟩ := hL
  have HR := Lib.hid hG
  have HG0 := Lib.hid hG.length
  have hN' : n = 0 → (a = none ∧ c = 0) ∨ ∃ ad, a = some ad := hN
  have HNN := Lib.hid hN'
  have HH : Hid (∀ t ∈ g, t.n ≤ 1000) := Lib.hid (fun t ht => by
    have h1 := hP t.ta (List.mem_map_of_mem ht)
    have h2 := (hG.ok t ht).1.length
    have h3 : t.ta.pcs.length = t.pcs.length := rfl
    omega)
  clear hG hP hN hN'
  go_enter Try.func129, Try.ntmps129
  go_wp2_with (go_at_call 146; (with_reducible refine (cloneTk_any _ _ _ g _ hn HR.out.rd HNN.out).mono ?_); rintro e w1 ⟨a1, c1, rfl, hown1, hb1⟩; have HO1 := Lib.hid hown1; have HB1 := Lib.hid hb1; clear hown1 hb1)
  go_loopw [9] (fun i wr => ∃ (k : Nat) (g' : List TaV), k ≤ n ∧ i = .int .i64 k ∧ g'.length = k ∧ wr.ownsRow w.heap.size 52 6 (.slice a1 n c1) n ((g' ++ g.drop k).flatMap encTa) ∧ (∀ t ∈ g', PcO w.heap.size wr t) ∧ PcAp g' ∧ g'.map TaV.ta = (g.take k).map TaV.ta ∧ Below w.heap.size w wr) (fun i _ => n - (intOf i).toNat)
  case atStart => exact ⟨0, [], Nat.zero_le _, rfl, rfl, HO1.out, by simp, List.Pairwise.nil, rfl, HB1.out⟩
  case round =>
    obtain ⟨k, g', hk, rfl, hl, hO, hok, hap, hg', hB⟩ := hrel
    have HO := Lib.hid hO; have HB := Lib.hid hB; have HG' := Lib.hid hg'; have HOK := Lib.hid hok; have HAP := Lib.hid hap; have HL := Lib.hid hl
    have hz := hB.size
    clear hO hB hg' hok hap hl HO1
    by_cases hlt : k < n
    · obtain ⟨q, rfl, hq1, hq⟩ := owns_addr HO.out (by omega)
      have hkl : k < g.length := by rw [HG0.out]; exact hlt
      have hgd : g.drop k = g[k] :: g.drop (k + 1) := List.drop_eq_getElem_cons hkl
      have hgm : g[k] ∈ g := List.getElem_mem hkl
      obtain ⟨b, off, rfl, hb0, hc⟩ := HR.out.rd.at_ (by omega)
      have x5 := hc k (by simpa using hkl) 5 (by omega)
      obtain ⟨t, ht⟩ : ∃ t, g[k] = t := ⟨_, rfl⟩
      rw [ht] at hgd hgm
      have hgk : (g.map encTa)[k]'(by simpa using hkl) = encTa t := by rw [List.getElem_map, ht]
      rw [hgk] at x5
      have htn : t.n ≤ 1000 := HH.out _ hgm
      have hok := (HR.out.ok t hgm).ext HB.out
      obtain ⟨pri, dl, fi, ga, ji, ta, tn, tc, ps⟩ := t
      simp [encTa] at x5
      simp only [] at htn
      have h5 := (HB.out.cell (p := ⟨b, off + k * 6 + 5, none⟩) hb0).trans x5
      have hbr : b < wr.heap.size := by omega
      have HT1 : Hid (Rd wr ta tn 2 (ps.map enc2)) := Lib.hid hok.1
      have HT2 : Hid (tn = 0 → (ta = none ∧ tc = 0) ∨ ∃ ad, ta = some ad) := Lib.hid hok.2
      have HTK := Lib.hid (take_of_drop hgd)
      have hpl : (g' ++ g.drop k)[k]? = some (⟨pri, dl, fi, ga, ji, ta, tn, tc, ps⟩ : TaV) := by
        rw [List.getElem?_append_right (by rw [HL.out]; exact Nat.le_refl _), HL.out, Nat.sub_self, hgd]; rfl
      have HPL := Lib.hid hpl
      have HGD := Lib.hid hgd
      have hcq := ownsT_at HO.out hpl 5 (by omega)
      have hfq := HO.out.frozenAt (k * 6 + 5)
      simp [encTa] at hcq
      clear ht hgd hgm hpl hok x5 hc hgk
      go_wp2_with (go_at_call 147; (with_reducible refine (clonePc_any _ _ _ ps _ htn HT1.out HT2.out).mono ?_); rintro e w2 ⟨a2, c2, rfl, hown2, hb2⟩; have HO2 := Lib.hid hown2; have HB2 := Lib.hid hb2; (have hc2 := (hb2.cell (p := ⟨q, k * 6 + 5, none⟩) hq).trans hcq); (have hf2 := (hb2.frozen (p := ⟨q, k * 6 + 5, none⟩) hq).trans hfq); have hz2 := hb2.size; clear hown2 hb2)
      go_roundw
      case rel =>
        have hs := (owns_ext HO.out HB2.out).stored (k * 6 + 5) (.slice a2 tn c2)
        rw [flat_set encTa_len _ k 5 _ ⟨pri, dl, fi, ga, ji, a2, tn, c2, ps⟩ _ HPL.out (by omega) rfl] at hs
        have hst : ∀ {t : TaV} {B : Nat}, PcO B w2 t → PcO B (w2.setCell ⟨q, k * 6 + 5, none⟩ (.slice a2 tn c2)) t := fun h => owns_kept h (owns_ext HO.out HB2.out) (by decide) hs.2
        refine ⟨k + 1, g' ++ [⟨pri, dl, fi, ga, ji, a2, tn, c2, ps⟩], by omega, by go_num, by simp [HL.out], ?_, ?_, ?_, ?_, ?_⟩
        · have e : (g' ++ g.drop k).set k (⟨pri, dl, fi, ga, ji, a2, tn, c2, ps⟩ : TaV) = g' ++ [⟨pri, dl, fi, ga, ji, a2, tn, c2, ps⟩] ++ g.drop (k + 1) := by
            rw [List.set_append_right _ _ (by rw [HL.out]; exact Nat.le_refl _), HL.out, Nat.sub_self, HGD.out, List.append_assoc]; rfl
          rw [← e]; exact hs.1
        · intro t ht
          rcases List.mem_append.1 ht with ht | ht
          · exact hst (owns_ext (HOK.out t ht) HB2.out)
          · simp at ht; subst ht; exact hst (owns_mono HO2.out hz)
        · refine List.pairwise_append.2 ⟨HAP.out, List.pairwise_singleton _ _, ?_⟩
          intro t ht u hu x hx hy
          simp at hu
          subst hu
          have h1 := (PcO.low (HOK.out t ht) x hx).2
          have h2 := (PcO.low (B := wr.heap.size) (t := ⟨pri, dl, fi, ga, ji, a2, tn, c2, ps⟩) HO2.out x hy).1
          omega
        · rw [HTK.out, List.map_append, List.map_append, HG'.out]; rfl
        · exact (Below.then HB.out HB2.out).setCell (p := ⟨q, k * 6 + 5, none⟩) hq1 _
      case measure => simp [intOf]; omega
    · have hkn : k = n := by omega
      subst hkn
      have e1 : g.drop k = [] := List.drop_of_length_le (by rw [HG0.out]; exact Nat.le_refl _)
      have e2 : g.take k = g := List.take_of_length_le (by rw [HG0.out]; exact Nat.le_refl _)
      have hO := HO.out
      rw [e1, List.append_nil] at hO
      have hg := HG'.out
      rw [e2] at hg
      have HO9 := Lib.hid hO; have HG9 := Lib.hid hg
      clear hO hg e1 e2
      go_wp2
      go_ret
      exact ⟨_, _, _, rfl, ⟨⟨HO9.out, HOK.out⟩, HAP.out⟩, HG9.out, HB.out⟩
end Go.Proofs.Ytabbmnnohnfbeaa
