/- The walk of ArriveTimers: it returns true. No condition. -/
import Derived.Test.YtfiggbeaomkepaaTmRef
import Derived.Test.YtfiggbeaomkepaaTmLaw
import Derived.Test.YtfiggbeaomkepaaSane
import Derived.Test.YtfiggbeaomkepaaIntsL
import Derived.Laws.StructEq
namespace Go.Proofs.Ytfiggbeaomkepaa
open Go.RowKit
set_option linter.unusedSimpArgs false
set_option linter.unusedVariables false
theorem eqPat (a b c : Int) (w : World) : (Op.equalIn 10000 23 (.agg #[.int .i64 a, .int .i64 b, .int .i64 c]) (.agg #[.int .i64 a, .int .i64 b, .int .i64 c])).run Try.prog w = .ok true w := by
  have hS : Try.prog.underlying 23 = some (.struct (Try.prog.fieldsOf 23)) := by kernel_rfl
  have hp : Try.prog.stoodInHeld 23 = false := by kernel_rfl
  have u3 := Try.underlying3
  have a3 := Try.isAgg3
  have z3 := Try.sizeOf3
  rw [show (10000 : Nat) = 9999 + 1 from rfl, run_equalIn_agg w 9999 23 _ _ hS hp]
  simp only [Program.fieldsOf, Try.underlying23]
  go_simp
theorem Timer_is {o a d n u er : Int} {l : List Int} {w : World} (h1 : (if tmC o a d n u = true then tmR o a d n u else []) = l) (h2 : (if tmC o a d n u = true then (0 : Int) else 1) = er) :
    Calls Try.prog 38 #[.agg #[.int .i64 o, .int .i64 a, .int .i64 d], .int .i64 n, .int .i64 u] w (OutTm w.heap.size w l er) := by subst h1; subst h2; exact Timer_any o a d n u w
theorem rTimer_is {o a d n u er : Int} {l : List Int} {w : World} (h1 : (if tmC o a d n u = true then tmR o a d n u else []) = l) (h2 : (if tmC o a d n u = true then (0 : Int) else 1) = er) :
    Calls Try.prog 39 #[.agg #[.int .i64 o, .int .i64 a, .int .i64 d], .int .i64 n, .int .i64 u] w (OutTm w.heap.size w l er) := by subst h1; subst h2; exact rTimer_any o a d n u w
theorem Timed_is {o a d n x y z : Int} {w : World} (h : timedR o a d n = (x, y, z)) : Calls Try.prog 40 #[.agg #[.int .i64 o, .int .i64 a, .int .i64 d], .int .i64 n] w fun e w' => e = .returned (.tuple #[.agg #[.int .i64 x, .int .i64 y, .int .i64 0], .int .i64 z]) ∧ Below w.heap.size w w' := by
  have := Timed_any o a d n w
  rw [h] at this; exact this
theorem rTimed_is {o a d n x y z : Int} {w : World} (h : timedR o a d n = (x, y, z)) : Calls Try.prog 41 #[.agg #[.int .i64 o, .int .i64 a, .int .i64 d], .int .i64 n] w fun e w' => e = .returned (.tuple #[.agg #[.int .i64 x, .int .i64 y, .int .i64 0], .int .i64 z]) ∧ Below w.heap.size w w' := by
  have := rTimed_any o a d n w
  rw [h] at this; exact this
theorem allowed_is {f g j : Int} {x : Bool} {e : Int} {a : Option Addr} {n c : Nat} {w : World} {xs : List P2} (hR : Rd w a n 2 (xs.map enc2)) (h : allowR f g j xs = (x, e)) :
    Calls Try.prog 24 #[.agg #[.int .i64 f, .int .i64 g, .int .i64 j], .slice a n c] w fun en w' => en = .returned (.tuple #[.bool x, .int .i64 e]) ∧ Below w.heap.size w w' := by
  have := allowed_any f g j a n c w xs hR
  rw [h] at this; exact this
theorem zl_snoc {l : List Int} {k : Nat} {x : Int} (h : l[k]? = some x) : zl (l.take (k + 1)) = zl (l.take k) ++ [(x, 0)] := by
  unfold zl
  rw [List.take_add_one, h, List.map_append]; rfl
theorem owns_zl {w : World} {B k n : Nat} {v : Value} {x : Int} {l : List Int} (hx : l[k]? = some x) (h : w.ownsRow B 61 2 v n ((zl (l.take k)).flatMap enc2 ++ [.int .i64 x, .int .i64 0])) : w.ownsRow B 61 2 v n ((zl (l.take (k + 1))).flatMap enc2) := by
  rw [zl_snoc hx, List.flatMap_append]; exact h
set_option maxRecDepth 100000 in
set_option maxHeartbeats 8000000 in
theorem arriveTimers_walk {w : World} (o a d : Int) (n : Int) (hn : -9223372036854775808 ≤ n ∧ n ≤ 9223372036854775807) (u : Int) (hu : -9223372036854775808 ≤ u ∧ u ≤ 9223372036854775807) :
    Calls Try.prog 11 #[.agg #[.int .i64 o, .int .i64 a, .int .i64 d], .int .i64 n, .int .i64 u] w fun e w' => e = .returned (.bool true) ∧ Below w.heap.size w w' := by
  obtain ⟨l, hl⟩ : ∃ l, (if tmC o a d n u = true then tmR o a d n u else []) = l := ⟨_, rfl⟩
  obtain ⟨er, her⟩ : ∃ er, (if tmC o a d n u = true then (0 : Int) else 1) = er := ⟨_, rfl⟩
  obtain ⟨A, G, z, htd⟩ : ∃ x y z, timedR o a d n = (x, y, z) := ⟨_, _, _, rfl⟩
  have hgap : l.length ≤ 40 ∧ (∀ x ∈ l, 1 ≤ x ∧ x ≤ 1000000) ∧ (∀ (i : Nat) (x y : Int), l[i]? = some x → l[i + 1]? = some y → x + 1 ≤ y) ∧ (er = 0 → z = 0 → allowR A G 0 (zl l) = (true, 0)) := by
    by_cases hc : tmC o a d n u = true
    · rw [if_pos hc] at hl her
      unfold tmC at hc
      simp only [Bool.and_eq_true] at hc
      obtain ⟨h1, h2, h3⟩ := hc
      have hok : TmOk o a d n := ⟨h1, inB_iff.1 h2⟩
      have hub := inB_iff.1 h3
      have hs := tmR_spec hok hub.1
      rw [hl] at hs
      obtain ⟨k, hk, _⟩ := hs.at_
      have hL := (hok.list k).1
      rw [← hk] at hL
      refine ⟨hs.len, fun x hx => ⟨(hL.ge x hx).1, by have := hs.le x hx; omega⟩, fun i x y hx hy => ?_, fun _ hz => ?_⟩
      · have := hL.gap i x y hx hy
        have : 1 ≤ gapT a d n := by unfold gapT; omega
        omega
      · unfold timedR at htd
        rw [h1, h2, Bool.and_self, if_pos rfl] at htd
        split at htd
        · rename_i hv
          simp only [Prod.mk.injEq] at htd
          obtain ⟨rfl, rfl, _⟩ := htd
          exact tm_allow hok hub hs hv
        · simp only [Prod.mk.injEq] at htd
          omega
    · rw [if_neg hc] at hl her
      subst hl
      exact ⟨by simp, fun x hx => (by cases hx), fun i x y hx => (by cases hx), fun q => by omega⟩
  have HL := Lib.hid hl; have HER := Lib.hid her; have HTD := Lib.hid htd
  obtain ⟨hlen, hge, hasc, hall⟩ := hgap
  have HGE := Lib.hid hge; have HASC := Lib.hid hasc; have HALL := Lib.hid hall
  have hq := eqPat A G 0
  clear hl her htd hge hasc hall hn hu
  go_enter Try.func11, Try.ntmps11
  go_upto_region 4 with (first | (go_at_call 38; (with_reducible refine (Timer_is HL.out HER.out).mono ?_); rintro e w1 ⟨a1, n1, c1, rfl, ho1, hb1⟩; have HB := Lib.hid ((Box3.new w o a d 30).ext hb1); have B1 : Hid (Below w.heap.size w w1) := Lib.hid (Below.trans (by (repeat' (first | (with_reducible exact Below.refl _ _) | (with_reducible assumption) | (with_reducible refine Below.alloc ?_ ?_ _) | (with_reducible refine Below.drew ?_) | (with_reducible refine Below.draws ?_ _) | (with_reducible refine Below.setCell ?_ ?_ _) | (refine Below.then ?_ (by with_reducible assumption)) | go_size))) (hb1.mono (by simp))); have HO1 := Lib.hid (ownsI_rd ho1); clear ho1 hb1; obtain ⟨x0, x1, x2, _, _, _, xz⟩ := HB.out) | (go_at_call 39; (with_reducible refine (rTimer_is HL.out HER.out).mono ?_); rintro e w2 ⟨a2, n2, c2, rfl, ho2, hb2⟩; have HB := Lib.hid (HB.out.ext hb2); have B2 := Lib.hid (Below.then B1.out hb2); have HO2 := Lib.hid (ownsI_rd ho2); have HO1' := Lib.hid (HO1.out.ext hb2); clear ho2 hb2 x0 x1 x2 xz; obtain ⟨x0, x1, x2, _, _, _, xz⟩ := HB.out) | (go_at_call 40; (with_reducible refine (Timed_is HTD.out).mono ?_); rintro e w3 ⟨rfl, hb3⟩; have HB := Lib.hid (HB.out.ext hb3); have B3 := Lib.hid (Below.then B2.out hb3); have HO2 := Lib.hid (HO2.out.ext hb3); have HO1' := Lib.hid (HO1'.out.ext hb3); clear hb3 x0 x1 x2 xz; obtain ⟨x0, x1, x2, _, _, _, xz⟩ := HB.out))
  obtain ⟨w4, hw4⟩ : ∃ x, x = w3.alloc (.cells #[.int .i64 A, .int .i64 G, .int .i64 0] 23) := ⟨_, rfl⟩
  have hb34 : Below w3.heap.size w3 w4 := by rw [hw4]; (repeat' (first | (with_reducible exact Below.refl _ _) | (with_reducible assumption) | (with_reducible refine Below.alloc ?_ ?_ _) | (with_reducible refine Below.drew ?_) | (with_reducible refine Below.draws ?_ _) | (with_reducible refine Below.setCell ?_ ?_ _) | (refine Below.then ?_ (by with_reducible assumption)) | go_size))
  have HP : Hid (Box3 w4 w3.heap.size A G 0) := Lib.hid (by rw [hw4]; exact Box3.new _ _ _ _ _)
  have HB := Lib.hid (HB.out.ext hb34)
  have B4 := Lib.hid (Below.then B3.out hb34)
  have HO2 := Lib.hid (HO2.out.ext hb34); have HO1' := Lib.hid (HO1'.out.ext hb34)
  rw [← hw4]
  clear hw4 hb34 x0 x1 x2 xz
  obtain ⟨x0, x1, x2, _, _, _, xz⟩ := HB.out
  go_upto_region 5 with (go_at_call 41; (with_reducible refine (rTimed_is HTD.out).mono ?_); rintro e w5 ⟨rfl, hb5⟩; have HP := Lib.hid (HP.out.ext hb5); have B5 := Lib.hid (Below.then B4.out hb5); have HO2 := Lib.hid (HO2.out.ext hb5); have HO1' := Lib.hid (HO1'.out.ext hb5); clear hb5 x0 x1 x2 xz; obtain ⟨p0, p1, p2, _, _, _, pz⟩ := HP.out)
  obtain ⟨w6, hw6⟩ : ∃ x, x = w5.alloc (.cells #[.int .i64 A, .int .i64 G, .int .i64 0] 23) := ⟨_, rfl⟩
  have hb56 : Below w5.heap.size w5 w6 := by rw [hw6]; (repeat' (first | (with_reducible exact Below.refl _ _) | (with_reducible assumption) | (with_reducible refine Below.alloc ?_ ?_ _) | (with_reducible refine Below.drew ?_) | (with_reducible refine Below.draws ?_ _) | (with_reducible refine Below.setCell ?_ ?_ _) | (refine Below.then ?_ (by with_reducible assumption)) | go_size))
  have HQ : Hid (Box3 w6 w5.heap.size A G 0) := Lib.hid (by rw [hw6]; exact Box3.new _ _ _ _ _)
  have HP := Lib.hid (HP.out.ext hb56)
  have B6 := Lib.hid (Below.then B5.out hb56)
  have HO2 := Lib.hid (HO2.out.ext hb56); have HO1' := Lib.hid (HO1'.out.ext hb56)
  rw [← hw6]
  clear hw6 hb56 p0 p1 p2 pz
  obtain ⟨p0, p1, p2, _, _, _, pz⟩ := HP.out
  obtain ⟨q0, q1, q2, _, _, _, qz⟩ := HQ.out
  go_upto_region 8 with (go_at_call 42; (with_reducible refine (lints_eq _ _ _ _ _ _ _ _ HO1'.out HO2.out).mono ?_); rintro e w7 ⟨rfl, hb7⟩; have HP := Lib.hid (HP.out.ext hb7); have B7 := Lib.hid (Below.then B6.out hb7); have HO1' := Lib.hid (HO1'.out.ext hb7); clear hb7 p0 p1 p2 pz q0 q1 q2 qz; obtain ⟨p0, p1, p2, _, _, _, pz⟩ := HP.out)
  have hn1 : n1 ≤ 40 := by rw [← HO1'.out.length]; exact hlen
  have HLN := Lib.hid HO1'.out.length
  go_wp2
  go_loopw [15, 16] (fun v15 v16 wr => ∃ (k : Nat) (va : Option Addr) (vc : Nat), k ≤ n1 ∧ v16 = .int .i64 k ∧ v15 = .slice va k vc ∧ wr.ownsRow w7.heap.size 61 2 (.slice va k vc) k ((zl (l.take k)).flatMap enc2) ∧ Below w7.heap.size w7 wr) (fun _ v _ => n1 - (intOf v).toNat)
  case atStart => exact ⟨0, none, 0, Nat.zero_le _, rfl, rfl, World.ownsRow_nil _ _ _ _, Below.refl _ _⟩
  case round =>
    obtain ⟨k, va, vc, hk, rfl, rfl, hO, hB⟩ := hrel
    have HO := Lib.hid hO; have HB := Lib.hid hB
    have hzB := hB.size
    have HPW := Lib.hid (HP.out.ext hB)
    clear p0 p1 p2 pz hO
    by_cases hkn : k < n1
    · obtain ⟨x, xb, xo, rfl, hxb, hxc, hx⟩ := (HO1'.out.ext hB).idx k hkn
      have hxg := HGE.out x (List.mem_of_getElem? hx)
      have d2 : decide (x < 1) = false := by simp; omega
      have HLX := Lib.hid hx
      have e2 := E2
      rcases Nat.eq_zero_or_pos k with hk0 | hk0
      · have d0 : decide (0 < k) = false := by simp <;> omega
        clear hB hx hk0
        go_upto_region 13 with (refine wp_region_later_lit (by kernel_rfl) (by kernel_rfl) ?_; (repeat (go_big_quiet_step (fail))); refine wpQuiet_nil ?_; intro w9 hb9)
        have HO9 := Lib.hid (owns_ext HO.out hb9)
        have HB9 := Lib.hid (HB.out.trans (hb9.mono hzB))
        have hxc9 := (hb9.cell (p := ⟨xb, xo + k, none⟩) hxb).trans hxc
        have hz9 : w7.heap.size ≤ w9.heap.size := by have := hb9.size; omega
        have hxb9 := Nat.lt_of_lt_of_le hxb hb9.size
        clear hb9 hxc hxb d0
        go_wp2_with (at_builtin; refine wpList_push (B := w7.heap.size) rfl _ _ _ rfl e2 rfl HO9.out rfl rfl (by intro u hu; simp at hu; rcases hu with rfl | rfl <;> rfl) (by omega) (by decide) (by omega) ?_; intro a8 c8 w10 hown10 hb10; have HO10 := Lib.hid (owns_zl HLX.out hown10); have HB10 := Lib.hid hb10; clear hown10 hb10)
        go_roundw
        case rel => exact ⟨k + 1, a8, c8, hkn, by go_num, rfl, HO10.out, HB9.out.trans HB10.out⟩
        case measure => simp [intOf]; omega

      · obtain ⟨M, rfl⟩ : ∃ M, k = M + 1 := ⟨k - 1, by omega⟩
        obtain ⟨y, yb, yo, he, hyb, hyc, hy⟩ := (HO1'.out.ext hB).idx M (by omega)
        cases he
        have hxy := HASC.out M y x hy hx
        have d0 : decide ((0 : Int) < ((M + 1 : Nat) : Int)) = true := by simp <;> omega
        have d1 : decide (x ≤ y) = false := by simp; omega
        have wl : IntKind.i64.wrap (((M + 1 : Nat) : Int) - 1) = (M : Int) := by rw [IntWalk.i64_in _ (by omega)]; omega
        have hMn : M < n1 := by omega
        have HHX : Hid (∀ wz, Below wr.heap.size wr wz → wz.cell? ⟨xb, xo + (M + 1), none⟩ = some (.int .i64 x) ∧ xb < wz.heap.size) := Lib.hid (fun wz hz => ⟨(hz.cell (p := ⟨xb, xo + (M + 1), none⟩) hxb).trans hxc, Nat.lt_of_lt_of_le hxb hz.size⟩)
        clear hB hx hy hk0 hyb
        go_upto_region 13 with (refine wp_region_later_lit (by kernel_rfl) (by kernel_rfl) ?_; (repeat (go_big_quiet_step (fail))); refine wpQuiet_nil ?_; intro w9 hb9)
        have HO9 := Lib.hid (owns_ext HO.out hb9)
        have HB9 := Lib.hid (HB.out.trans (hb9.mono hzB))
        have hz9 : w7.heap.size ≤ w9.heap.size := by have := hb9.size; omega
        obtain ⟨hxc9, hxb9⟩ := HHX.out _ hb9
        clear hb9 hxc hxb hyc d0 d1
        go_wp2_with (at_builtin; refine wpList_push (B := w7.heap.size) rfl _ _ _ rfl e2 rfl HO9.out rfl rfl (by intro u hu; simp at hu; rcases hu with rfl | rfl <;> rfl) (by omega) (by decide) (by omega) ?_; intro a8 c8 w10 hown10 hb10; have HO10 := Lib.hid (owns_zl HLX.out hown10); have HB10 := Lib.hid hb10; clear hown10 hb10)
        go_roundw
        case rel => exact ⟨M + 1 + 1, a8, c8, hkn, by go_num, rfl, HO10.out, HB9.out.trans HB10.out⟩
        case measure => simp [intOf]; omega
    · have hke : k = n1 := by omega
      subst hke
      have htk : l.take k = l := List.take_of_length_le (by rw [HLN.out]; omega)
      rw [htk] at HO
      have HOR := Lib.hid (Rd.of_owns enc2_len (by decide) HO.out)
      obtain ⟨p0, p1, p2, _, _, _, pz⟩ := HPW.out
      have B9 := Lib.hid (B7.out.trans (HB.out.mono B7.out.size))
      clear hB htk
      by_cases hz0 : z = 0
      · subst hz0
        by_cases he0 : er = 0
        · subst he0
          have HAL := Lib.hid (HALL.out rfl rfl)
          go_wp2_with (first | (go_at_call 24; (with_reducible refine (allowed_is HOR.out HAL.out).mono ?_); rintro e w12 ⟨rfl, hb12⟩) | (go_at_call 16; (with_reducible refine (sane_any _).mono ?_); rintro e w20 ⟨rfl, hb20⟩))
          go_ret
          exact ⟨rfl, Below.then (Below.then B9.out hb12) hb20⟩
        · have d3 : (er == 0) = false := by simpa using he0
          go_wp2_with (go_at_call 16; (with_reducible refine (sane_any _).mono ?_); rintro e w20 ⟨rfl, hb20⟩)
          go_ret
          exact ⟨rfl, Below.then B9.out hb20⟩
      · have d3 : (z == 0) = false := by simpa using hz0
        go_wp2_with (go_at_call 16; (with_reducible refine (sane_any _).mono ?_); rintro e w20 ⟨rfl, hb20⟩)
        go_ret
        exact ⟨rfl, Below.then B9.out hb20⟩
end Go.Proofs.Ytfiggbeaomkepaa
