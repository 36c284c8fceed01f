/- The contract of lock.Valid, the walk. The conditions: the graph reads as named. -/
import Derived.Test.YtmdjbnicjohkjaaLkValid
namespace Go.Proofs.Ytmdjbnicjohkjaa
open Go.RowKit
set_option linter.unusedSimpArgs false
set_option linter.unusedVariables false
/-- the element ahead of j, or -1 -/
def ahead (l : List Int) : Nat → Int
  | 0 => -1
  | j + 1 => (l[j]?).getD (-1)
theorem holdsGo_lo {S p x xs} (h : holdsGo S p (x :: xs) = true) : p < x := by
  simp only [holdsGo, Bool.and_eq_true, decide_eq_true_eq] at h; exact h.1.2
theorem hasB_asc {l : List Int} {p x : Int} (h : ∀ y ∈ l, y ≤ p) (hx : p < x) : hasB l x = false := by
  cases e : hasB l x
  · rfl
  · have := h x (hasB_iff.1 e); omega
theorem get_of_drop {α : Type} {l r : List α} {j : Nat} {x : α} (h : l.drop j = x :: r) : l[j]? = some x := by
  have : (l.drop j)[0]? = some x := by rw [h]; rfl
  rw [List.getElem?_drop] at this; exact this
theorem take_of_drop {α : Type} {l r : List α} {j : Nat} {x : α} (h : l.drop j = x :: r) : l.take (j + 1) = l.take j ++ [x] := by
  rw [List.take_add_one, get_of_drop h]; rfl
theorem ahead_of_drop {l r : List Int} {j : Nat} {x : Int} (h : l.drop j = x :: r) : ahead l (j + 1) = x := by
  simp [ahead, get_of_drop h]
theorem asc_step {l r : List Int} {j : Nat} {x : Int} (h : l.drop j = x :: r) (hle : ∀ y ∈ l.take j, y ≤ ahead l j) (hlt : ahead l j < x) : ∀ y ∈ l.take (j + 1), y ≤ ahead l (j + 1) := by
  rw [take_of_drop h, ahead_of_drop h]
  intro y hy
  rcases List.mem_append.1 hy with hy | hy
  · have := hle y hy; omega
  · simp at hy; omega
set_option maxHeartbeats 2000000 in
theorem valid_any (a : Option Addr) (n c : Nat) (g : List ThV) (w : World) (hG : RdG w a n g) :
    Calls Try.prog 22 #[.slice a n c] w fun e w' => e = .returned (.bool (validG (g.map ThV.th))) ∧ Below w.heap.size w w' := by
  have hs := hG.small
  have hgl : (g.map ThV.th).length = n := by simp [hG.length]
  have hG0 := hG.length
  by_cases h8 : 8 < n
  · have : validG (g.map ThV.th) = false := by unfold validG; rw [hgl, show decide (n ≤ 8) = false by simp; omega]; rfl
    rw [this]
    clear hG hgl
    go_enter Try.func22, Try.ntmps22
    go_wp2
    go_ret
    exact ⟨rfl, by (repeat' (first | (with_reducible exact Below.refl _ _) | (with_reducible assumption) | (with_reducible refine Below.alloc ?_ ?_ _) | (with_reducible refine Below.drew ?_) | (with_reducible refine Below.draws ?_ _) | (with_reducible refine Below.setCell ?_ ?_ _) | (refine Below.then ?_ (by with_reducible assumption)) | go_size))⟩
  · have v0 : thsGo [] (g.map ThV.th) = false → validG (g.map ThV.th) = false := fun h => by unfold validG; rw [h]; simp
    have v1 : thsGo [] (g.map ThV.th) = true → validG (g.map ThV.th) = !(g.any fun t => !waitsOk (allHolds (g.map ThV.th)) t.th) := fun h => by
      unfold validG; rw [h, hgl, show decide (n ≤ 8) = true by simp; omega, List.all_map]
      simp [List.all_eq_not_any_not]
    have ok0 : thsGo [] (g.map ThV.th) = true → ∀ t ∈ g, thOk t.th = true := fun h t ht => thsGo_ok _ _ h _ (List.mem_map_of_mem ht)
    have st : thsGo [] ((g.drop 0).map ThV.th) = thsGo [] (g.map ThV.th) := rfl
    generalize validG (g.map ThV.th) = V at *
    generalize thsGo [] (g.map ThV.th) = TG at *
    obtain ⟨L, hL⟩ : ∃ L, L = allHolds (g.map ThV.th) := ⟨_, rfl⟩
    rw [← hL] at v1
    have st2 : [] ++ allHolds ((g.drop 0).map ThV.th) = L := hL.symm
    have HV0 := Lib.hid v0; have HV1 := Lib.hid v1; have HOK := Lib.hid ok0; have HS := Lib.hid st; have HS2 := Lib.hid st2; have HR := Lib.hid hG; have HG0 := Lib.hid hG0
    clear v0 v1 ok0 st st2 hG hL hgl hG0
    go_enter Try.func22, Try.ntmps22
    go_wp2
    go_loopw [13] (fun i wr => ∃ (k : Nat) (S : List Int), k ≤ n ∧ i = .int .i64 k ∧ thsGo S ((g.drop k).map ThV.th) = TG ∧ S ++ allHolds ((g.drop k).map ThV.th) = L ∧ Held wr w.heap.size S ∧ Below w.heap.size w wr) (fun i _ => n - (intOf i).toNat)
    case atStart =>
      refine ⟨0, [], Nat.zero_le _, rfl, HS.out, HS2.out, ⟨by simp, fun j hj => ?_, fun j hj => by simp [go_sem]⟩, by (repeat' (first | (with_reducible exact Below.refl _ _) | (with_reducible assumption) | (with_reducible refine Below.alloc ?_ ?_ _) | (with_reducible refine Below.drew ?_) | (with_reducible refine Below.draws ?_ _) | (with_reducible refine Below.setCell ?_ ?_ _) | (refine Below.then ?_ (by with_reducible assumption)) | go_size))⟩
      simp [go_sem]
      rcases j with _ | _ | _ | _ | _ | _ | j <;> first | rfl | omega
    case round =>
      obtain ⟨k, S, hk, rfl, he, hall, hH, hB⟩ := hrel
      have HE := Lib.hid he; have HALL := Lib.hid hall; have HH := Lib.hid hH; have HB := Lib.hid hB
      have hz := hH.lt
      clear he hall hH hB
      obtain ⟨wo, rfl⟩ : ∃ wo, wo = wr := ⟨_, rfl⟩
      by_cases hlt : k < n
      · obtain ⟨⟨pri, ta, tn, tc, waits, holds⟩, b, off, rfl, hb, h1, h2, h3, ht, hgi, HD⟩ := (HR.out.ext HB.out).at_ k hlt
        have HE2 : Hid ((thOk ⟨pri, holds, waits⟩ && holdsGo S (-1) holds && thsGo (S ++ holds) ((g.drop (k + 1)).map ThV.th)) = TG) := by have := HE.out; rw [HD.out] at this; exact this
        have HALL2 : Hid ((S ++ holds) ++ allHolds ((g.drop (k + 1)).map ThV.th) = L) := by have := HALL.out; rw [HD.out] at this; rw [List.append_assoc]; exact this
        have HT : Hid (Rd w ta tn 1 (holds.map enc1)) := Lib.hid (HR.out.ok _ (List.mem_of_getElem? hgi)).1
        clear HE HALL ht hgi HD
        simp only [] at h1 h2 h3
        by_cases p0 : pri < 0
        · have hv := HV0.out (by rw [← HE2.out, show thOk ⟨pri, holds, waits⟩ = false by rw [Bool.eq_false_iff, ne_eq, thOk_iff]; simp only []; omega]; rfl)
          subst hv
          go_wp2_with (go_at_call 54; refine (isLock_any _ _).mono ?_; rintro e w1 ⟨rfl, rfl⟩)
          go_ret
          exact ⟨rfl, Below.then HB.out (by (repeat' (first | (with_reducible exact Below.refl _ _) | (with_reducible assumption) | (with_reducible refine Below.alloc ?_ ?_ _) | (with_reducible refine Below.drew ?_) | (with_reducible refine Below.draws ?_ _) | (with_reducible refine Below.setCell ?_ ?_ _) | (refine Below.then ?_ (by with_reducible assumption)) | go_size)))⟩
        by_cases p1 : 99 < pri
        · have hv := HV0.out (by rw [← HE2.out, show thOk ⟨pri, holds, waits⟩ = false by rw [Bool.eq_false_iff, ne_eq, thOk_iff]; simp only []; omega]; rfl)
          subst hv
          go_wp2_with (go_at_call 54; refine (isLock_any _ _).mono ?_; rintro e w1 ⟨rfl, rfl⟩)
          go_ret
          exact ⟨rfl, Below.then HB.out (by (repeat' (first | (with_reducible exact Below.refl _ _) | (with_reducible assumption) | (with_reducible refine Below.alloc ?_ ?_ _) | (with_reducible refine Below.drew ?_) | (with_reducible refine Below.draws ?_ _) | (with_reducible refine Below.setCell ?_ ?_ _) | (refine Below.then ?_ (by with_reducible assumption)) | go_size)))⟩
        have hW : ((waits != -1) = true ∧ inB waits 0 5 = false) ∨ (waits = -1 ∨ (waits != -1) = true ∧ inB waits 0 5 = true) := by
          by_cases e : waits = -1
          · exact .inr (.inl e)
          · have e' : (waits != -1) = true := by simpa using e
            cases e2 : inB waits 0 5
            · exact .inl ⟨e', rfl⟩
            · exact .inr (.inr ⟨e', rfl⟩)
        rcases hW with ⟨p2, p3⟩ | hW
        · have hv := HV0.out (by
            rw [← HE2.out, show thOk ⟨pri, holds, waits⟩ = false by
              rw [Bool.eq_false_iff, ne_eq, thOk_iff]; simp only []
              have : ¬ (0 ≤ waits ∧ waits ≤ 5) := fun h => by rw [inB_iff.2 h] at p3; exact absurd p3 (by simp)
              have : waits ≠ -1 := by simpa using p2
              omega]
            rfl)
          subst hv
          go_wp2_with (go_at_call 54; refine (isLock_any _ _).mono ?_; rintro e w1 ⟨rfl, rfl⟩)
          go_ret
          exact ⟨rfl, Below.then HB.out (by (repeat' (first | (with_reducible exact Below.refl _ _) | (with_reducible assumption) | (with_reducible refine Below.alloc ?_ ?_ _) | (with_reducible refine Below.drew ?_) | (with_reducible refine Below.draws ?_ _) | (with_reducible refine Below.setCell ?_ ?_ _) | (refine Below.then ?_ (by with_reducible assumption)) | go_size)))⟩
        have hok : thOk ⟨pri, holds, waits⟩ = true := by
          rw [thOk_iff]; simp only []
          rcases hW with e | ⟨_, e⟩
          · omega
          · have := inB_iff.1 e; omega
        have HE3 : Hid ((holdsGo S (-1) holds && thsGo (S ++ holds) ((g.drop (k + 1)).map ThV.th)) = TG) := by have := HE2.out; rw [hok, Bool.true_and] at this; exact this
        clear HE2 hok
        have st : holdsGo S (ahead holds 0) (holds.drop 0) = holdsGo S (-1) holds := rfl
        generalize holdsGo S (-1) holds = RH at *
        have HST := Lib.hid st; clear st
        rcases hW with p2 | ⟨p2, p3⟩
        all_goals
          (try subst p2)
          go_wp2_with (go_at_call 54; refine (isLock_any _ _).mono ?_; rintro e w1 ⟨rfl, rfl⟩)
          go_loopw [39] (fun i wi => ∃ j : Nat, j ≤ tn ∧ i = .int .i64 j ∧ holdsGo S (ahead holds j) (holds.drop j) = RH ∧ (∀ y ∈ holds.take j, y ≤ ahead holds j) ∧ Held wi w.heap.size (S ++ holds.take j) ∧ wi.cell? ⟨wo.heap.size, 1, none⟩ = some (.slice ta tn tc) ∧ wo.heap.size + 1 ≤ wi.heap.size ∧ Below w.heap.size w wi) (fun i _ => tn - (intOf i).toNat)
          case atStart => exact ⟨0, Nat.zero_le _, rfl, HST.out, by simp, by rw [List.take_zero, List.append_nil]; exact HH.out.ext (K := wo.heap.size) (by (repeat' (first | (with_reducible exact Below.refl _ _) | (with_reducible assumption) | (with_reducible refine Below.alloc ?_ ?_ _) | (with_reducible refine Below.drew ?_) | (with_reducible refine Below.draws ?_ _) | (with_reducible refine Below.setCell ?_ ?_ _) | (refine Below.then ?_ (by with_reducible assumption)) | go_size))) hz, by simp [go_sem], by simp, Below.then HB.out (by (repeat' (first | (with_reducible exact Below.refl _ _) | (with_reducible assumption) | (with_reducible refine Below.alloc ?_ ?_ _) | (with_reducible refine Below.drew ?_) | (with_reducible refine Below.draws ?_ _) | (with_reducible refine Below.setCell ?_ ?_ _) | (refine Below.then ?_ (by with_reducible assumption)) | go_size)))⟩
          case round =>
            obtain ⟨j, hj, rfl, he, hle, hH, hc1, hz1, hB⟩ := hrel
            have HE := Lib.hid he; have HLE := Lib.hid hle; have HH2 := Lib.hid hH; have HB2 := Lib.hid hB
            have hzi := hH.lt
            clear he hle hH hB
            by_cases hjl : j < tn
            · obtain ⟨x, b2, off2, rfl, hb2, hx, HD⟩ := (HT.out.ext HB2.out).next1 j hjl
              have HE4 : Hid ((inB x 0 5 && !hasB S x && decide (ahead holds j < x) && holdsGo S x (holds.drop (j + 1))) = RH) := by have := HE.out; rw [HD.out] at this; exact this
              clear HE
              cases px : inB x 0 5
              · have hv := HV0.out (by rw [← HE3.out, ← HE4.out, px]; rfl)
                subst hv
                go_wp2_with (go_at_call 54; refine (isLock_any _ _).mono ?_; rintro e w1 ⟨rfl, rfl⟩)
                go_ret
                exact ⟨rfl, HB2.out⟩
              have hx05 := inB_iff.1 px
              obtain ⟨m, rfl⟩ := Int.eq_ofNat_of_zero_le hx05.1
              have hm : m < 6 := by omega
              have hcell := HH2.out.at_ m hm
              have hfz := HH2.out.fz m hm
              have hts := HT.out.small
              clear hx05
              cases pm : hasB (S ++ holds.take j) m
              · by_cases pa : ahead holds j < m
                · have hdo : holdsGo S m (holds.drop (j + 1)) = RH := by
                    rw [← HE4.out, px]
                    rw [hasB_app, Bool.or_eq_false_iff] at pm
                    rw [pm.1, show decide (ahead holds j < m) = true by simpa using pa]; simp
                  have hasc := asc_step HD.out HLE.out pa
                  have hah := ahead_of_drop HD.out
                  have htk := take_of_drop HD.out
                  have hset := HH2.out.set m hm
                  have HDO := Lib.hid hdo; have HASC := Lib.hid hasc; have HAH := Lib.hid hah; have HTK := Lib.hid htk; have HSET := Lib.hid hset
                  clear hdo hasc hah htk hset
                  have rel : ∃ j1 : Nat, j1 ≤ tn ∧ Value.int .i64 ((j : Int) + 1) = .int .i64 j1 ∧ holdsGo S (ahead holds j1) (holds.drop j1) = RH ∧ (∀ y ∈ holds.take j1, y ≤ ahead holds j1) ∧ Held (wr.setCell ⟨w.heap.size, m, none⟩ (.bool true)) w.heap.size (S ++ holds.take j1) ∧ (wr.setCell ⟨w.heap.size, m, none⟩ (.bool true)).cell? ⟨wo.heap.size, 1, none⟩ = some (.slice (some ⟨b2, off2, none⟩) tn tc) ∧ wo.heap.size + 1 ≤ (wr.setCell ⟨w.heap.size, m, none⟩ (.bool true)).heap.size ∧ Below w.heap.size w (wr.setCell ⟨w.heap.size, m, none⟩ (.bool true)) :=
                    ⟨j + 1, by omega, by simp, by rw [HAH.out]; exact HDO.out, HASC.out, by rw [HTK.out, ← List.append_assoc]; exact HSET.out, by rw [World.cell?_setCell_other _ _ _ _ (fun q => by have := congrArg Addr.block q; simp only [] at this; omega)]; exact hc1, by simpa using hz1, HB2.out.setCell (Nat.le_refl _) _⟩
                  have REL := Lib.hid rel; clear rel
                  by_cases j0 : j = 0
                  · have hj0 : ¬ ((j : Int) > 0) := by omega
                    clear j0
                    go_wp2_with (go_at_call 54; refine (isLock_any _ _).mono ?_; rintro e w1 ⟨rfl, rfl⟩)
                    go_roundw
                    case rel => obtain ⟨j1, a1, a2, r⟩ := REL.out; exact ⟨j1, a1, by simpa using a2, r⟩
                    case measure => simp [intOf]; omega
                  · obtain ⟨j, rfl⟩ : ∃ j', j = j' + 1 := ⟨j - 1, by omega⟩
                    clear j0
                    obtain ⟨p, b3, off3, e3, hb3, hp, HD3⟩ := (HT.out.ext HB2.out).next1 j (by omega)
                    simp at e3
                    obtain ⟨rfl, rfl⟩ := e3
                    rw [ahead_of_drop HD3.out] at pa
                    have hpa : ¬ (p ≥ (m : Int)) := by omega
                    go_wp2_with (go_at_call 54; refine (isLock_any _ _).mono ?_; rintro e w1 ⟨rfl, rfl⟩)
                    go_roundw
                    case rel => obtain ⟨j1, a1, a2, r⟩ := REL.out; exact ⟨j1, a1, by simpa using a2, r⟩
                    case measure => simp [intOf]; omega
                · have hv := HV0.out (by rw [← HE3.out, ← HE4.out, show decide (ahead holds j < m) = false by simpa using pa]; simp)
                  subst hv
                  rcases j with _ | j
                  · exact absurd (show ahead holds 0 < m by simp [ahead]; omega) pa
                  · obtain ⟨p, b3, off3, e3, hb3, hp, HD3⟩ := (HT.out.ext HB2.out).next1 j (by omega)
                    simp at e3
                    obtain ⟨rfl, rfl⟩ := e3
                    rw [ahead_of_drop HD3.out] at pa
                    have hpa : p ≥ (m : Int) := by omega
                    go_wp2_with (go_at_call 54; refine (isLock_any _ _).mono ?_; rintro e w1 ⟨rfl, rfl⟩)
                    go_ret
                    exact ⟨rfl, HB2.out⟩
              · have hv := HV0.out (by
                  rw [← HE3.out, ← HE4.out]
                  rw [hasB_app, Bool.or_eq_true] at pm
                  rcases pm with pm | pm
                  · rw [pm]; simp
                  · have : ¬ ahead holds j < m := fun h => by rw [hasB_asc HLE.out h] at pm; exact absurd pm (by simp)
                    rw [show decide (ahead holds j < m) = false by simpa using this]; simp)
                subst hv
                go_wp2_with (go_at_call 54; refine (isLock_any _ _).mono ?_; rintro e w1 ⟨rfl, rfl⟩)
                go_ret
                exact ⟨rfl, HB2.out⟩
            · have hjn : j = tn := by omega
              subst hjn
              have hl := HT.out.length
              have hRH : RH = true := by rw [← HE.out, drop_end hl (Nat.le_refl _)]; rfl
              subst hRH
              have htk : holds.take j = holds := List.take_of_length_le (by omega)
              rw [htk] at HH2
              have HE5 : Hid (thsGo (S ++ holds) ((g.drop (k + 1)).map ThV.th) = TG) := by have := HE3.out; rw [Bool.true_and] at this; exact this
              clear htk hl HE HLE HE3
              go_wp2_with (go_at_call 54; refine (isLock_any _ _).mono ?_; rintro e w1 ⟨rfl, rfl⟩)
              go_roundw
              case rel => exact ⟨k + 1, S ++ holds, by omega, by go_num, HE5.out, HALL2.out, HH2.out, HB2.out⟩
              case measure => simp [intOf]; omega
      · have hkn : g.drop k = [] := drop_end HG0.out (by omega)
        have hTG : TG = true := by rw [← HE.out, hkn]; rfl
        subst hTG
        have hSL : S = L := by rw [← HALL.out, hkn]; simp [allHolds]
        subst hSL
        have hv := HV1.out rfl
        subst hv
        have hok := HOK.out rfl
        have hGo := HR.out.ext HB.out
        have HC := Lib.hid (th_con 59 #[.pointer (some ⟨w.heap.size, 0, none⟩)] (fun t => !waitsOk S t.th) a n c g wo hGo.rd ⟨fun args w => by kernel_rfl, fun t ht w' hb => valid1_any (hGo.ok t ht) (hok t ht) w' hb S w.heap.size HH.out⟩)
        clear hok hGo HE HALL hkn
        go_wp2_with (go_at_call 58; refine HC.out.mono ?_; rintro e w1 ⟨rfl, hb1⟩)
        go_ret
        exact ⟨rfl, Below.then HB.out hb1⟩
end Go.Proofs.Ytmdjbnicjohkjaa
