/- The contract of Timed of the program. No condition. -/
import Derived.Test.YtfiggbeaomkepaaTmIter
namespace Go.Proofs.Ytfiggbeaomkepaa
open Go.RowKit Go.Shelf
set_option linter.unusedSimpArgs false
set_option linter.unusedVariables false
attribute [local go_sem] Oper.semAt_some
theorem addr_neT {b b' i j : Nat} (h : b ≠ b' ∨ i ≠ j) : (⟨b, i, none⟩ : Addr) ≠ ⟨b', j, none⟩ := by
  intro q; rcases h with h | h
  · exact h (congrArg Addr.block q)
  · exact h (congrArg Addr.off q)
theorem alarms_any (o a d n : Int) (w : World) : Calls Try.prog 56 #[.agg #[.int .i64 o, .int .i64 a, .int .i64 d], .int .i64 n] w fun e w' => ∃ p q, e = .returned (.func (.func 74) #[] #[.pointer (some ⟨p, 0, none⟩), .pointer (some ⟨q, 0, none⟩)]) ∧ ClkC o a d n p q w' ∧ w.heap.size ≤ p ∧ w.heap.size ≤ q ∧ Below w.heap.size w w' := by
  go_enter Try.func56, Try.ntmps56
  go_wp2
  go_ret
  exact ⟨_, _, rfl, ⟨by simp [go_sem], by simp [go_sem], by simp [go_sem], by simp [go_sem], by simp; omega, by simp⟩, by simp, by simp, by (repeat' (first | (with_reducible exact Below.refl _ _) | (with_reducible assumption) | (with_reducible refine Below.alloc ?_ ?_ _) | (with_reducible refine Below.drew ?_) | (with_reducible refine Below.draws ?_ _) | (with_reducible refine Below.setCell ?_ ?_ _) | (refine Below.then ?_ (by with_reducible assumption)) | go_size))⟩
def timedR (o a d n : Int) : Int × Int × Int := if vclk o a d && inB n 1 10000 then (if vpat (atT o a d n 0) (gapT a d n) 0 then (atT o a d n 0, gapT a d n, 0) else (0, 0, 3)) else (0, 0, 1)
def rTd (x : Int × Int × Int) : Ending := .returned (.tuple #[.agg #[.int .i64 x.1, .int .i64 x.2.1, .int .i64 0], .int .i64 x.2.2])
theorem vclk_is {o a d : Int} {x : Bool} {w : World} (h : vclk o a d = x) : Calls Try.prog 21 #[.agg #[.int .i64 o, .int .i64 a, .int .i64 d]] w fun e w' => e = .returned (.bool x) ∧ Below w.heap.size w w' := by subst h; exact validClock_any o a d w
theorem awithin_is {n a b : Int} {x : Bool} {w : World} (h : inB n a b = x) : Calls Try.prog 48 #[.int .i64 n, .int .i64 a, .int .i64 b] w fun e w' => e = .returned (.bool x) ∧ w = w' := by subst h; exact within_any n a b w
theorem avalid_is {f g j : Int} {x : Bool} {w : World} (h : vpat f g j = x) : Calls Try.prog 26 #[.agg #[.int .i64 f, .int .i64 g, .int .i64 j]] w fun e w' => e = .returned (.bool x) ∧ Below w.heap.size w w' := by subst h; exact valid_any f g j w
/-- three cells of a block -/
structure Box3 (w : World) (q : Nat) (f g j : Int) : Prop where
  c0 : w.cell? ⟨q, 0, none⟩ = some (.int .i64 f)
  c1 : w.cell? ⟨q, 1, none⟩ = some (.int .i64 g)
  c2 : w.cell? ⟨q, 2, none⟩ = some (.int .i64 j)
  f0 : w.frozen? ⟨q, 0, none⟩ = false
  f1 : w.frozen? ⟨q, 1, none⟩ = false
  f2 : w.frozen? ⟨q, 2, none⟩ = false
  z : q < w.heap.size
theorem Box3.ext {w w' : World} {q : Nat} {f g j : Int} (h : Box3 w q f g j) (hb : Below w.heap.size w w') : Box3 w' q f g j :=
  ⟨(hb.cell (p := ⟨q, 0, none⟩) h.z).trans h.c0, (hb.cell (p := ⟨q, 1, none⟩) h.z).trans h.c1, (hb.cell (p := ⟨q, 2, none⟩) h.z).trans h.c2, (hb.frozen (p := ⟨q, 0, none⟩) h.z).trans h.f0, (hb.frozen (p := ⟨q, 1, none⟩) h.z).trans h.f1, (hb.frozen (p := ⟨q, 2, none⟩) h.z).trans h.f2, Nat.lt_of_lt_of_le h.z hb.size⟩
theorem Box3.kept {W W' : World} {q : Nat} {f g j : Int} {row : Option Nat} (h : Box3 W q f g j) (hg : W.grownBy W' row) (hr : ∀ r, row = some r → ∃ o : Obj, W.heap[r]? = some o ∧ o.isCells = false) : Box3 W' q f g j :=
  ⟨cell_kept h.c0 hg hr, cell_kept h.c1 hg hr, cell_kept h.c2 hg hr, (frozen_kept h.c0 hg hr).trans h.f0, (frozen_kept h.c1 hg hr).trans h.f1, (frozen_kept h.c2 hg hr).trans h.f2, Nat.lt_of_lt_of_le h.z hg.size⟩
theorem Box3.new (w : World) (f g j : Int) (t : TypeId) : Box3 (w.alloc (.cells #[.int .i64 f, .int .i64 g, .int .i64 j] t)) w.heap.size f g j := ⟨by simp, by simp, by simp, by simp, by simp, by simp, by simp⟩
section
variable {F : Fence} {n : Nat} {P : Program} {fn : Func} {R : Ending → World → Prop} {tmps : Array Value} {v : Value} {w : World}
theorem leave0 (hr : (results fn tmps).run P w = .ok v w) (hR : R (.returned v) w) : bodyPostM F n P fn R .ret { tmps := tmps, defers := [] } w := ⟨_, hr, hR⟩
theorem leave1 {D : Nat} (hK : w.heap[D]? = some (.deferred (some []))) (hr : (results fn tmps).run P (w.putObj D (.deferred none)) = .ok v (w.putObj D (.deferred none))) (hR : R (.returned v) (w.putObj D (.deferred none))) :
    bodyPostM F n P fn R .ret { tmps := tmps, defers := [{ target := .collected D, args := #[] }] } w := ⟨by simp, .inl ⟨_, _, rfl, run_takeDeferred hK, _, hr, hR⟩⟩
end
theorem Box3.set0 {w : World} {q : Nat} {f g j : Int} (h : Box3 w q f g j) (x : Int) : Box3 (w.setCell ⟨q, 0, none⟩ (.int .i64 x)) q x g j :=
  ⟨World.cell?_setCell_same _ _ _ h.c0, (World.cell?_setCell_other _ _ _ _ (addr_neT (.inr (by decide)))).trans h.c1, (World.cell?_setCell_other _ _ _ _ (addr_neT (.inr (by decide)))).trans h.c2, by simp only [World.frozen?_setCell]; exact h.f0, by simp only [World.frozen?_setCell]; exact h.f1, by simp only [World.frozen?_setCell]; exact h.f2, by simpa using h.z⟩
theorem Box3.other {w : World} {q q' i : Nat} {f g j : Int} (h : Box3 w q f g j) (hne : q' ≠ q) (v : Value) : Box3 (w.setCell ⟨q', i, none⟩ v) q f g j :=
  ⟨(World.cell?_setCell_other _ _ _ _ (addr_neT (.inl hne))).trans h.c0, (World.cell?_setCell_other _ _ _ _ (addr_neT (.inl hne))).trans h.c1, (World.cell?_setCell_other _ _ _ _ (addr_neT (.inl hne))).trans h.c2, by simp only [World.frozen?_setCell]; exact h.f0, by simp only [World.frozen?_setCell]; exact h.f1, by simp only [World.frozen?_setCell]; exact h.f2, by simpa using h.z⟩
theorem keeps_set3 (w : World) (q : Nat) (a b c : Value) : KeepsOthers w (((w.setCell ⟨q, 0, none⟩ a).setCell ⟨q, 1, none⟩ b).setCell ⟨q, 2, none⟩ c) := ((KeepsOthers.setCell _ _ _).trans (KeepsOthers.setCell _ _ _)).trans (KeepsOthers.setCell _ _ _)
theorem set3 {w : World} {q : Nat} {f g j : Int} (h : Box3 w q f g j) (f' g' j' : Int) : Box3 (((w.setCell ⟨q, 0, none⟩ (.int .i64 f')).setCell ⟨q, 1, none⟩ (.int .i64 g')).setCell ⟨q, 2, none⟩ (.int .i64 j')) q f' g' j' := by
  have ne : ∀ i j : Nat, i ≠ j → (⟨q, i, none⟩ : Addr) ≠ ⟨q, j, none⟩ := fun i j hij => addr_neT (.inr hij)
  have s1 : (w.setCell ⟨q, 0, none⟩ (.int .i64 f')).cell? ⟨q, 1, none⟩ = some (.int .i64 g) := (World.cell?_setCell_other _ _ _ _ (ne 0 1 (by decide))).trans h.c1
  have s2 : ((w.setCell ⟨q, 0, none⟩ (.int .i64 f')).setCell ⟨q, 1, none⟩ (.int .i64 g')).cell? ⟨q, 2, none⟩ = some (.int .i64 j) := (World.cell?_setCell_other _ _ _ _ (ne 1 2 (by decide))).trans ((World.cell?_setCell_other _ _ _ _ (ne 0 2 (by decide))).trans h.c2)
  refine ⟨?_, ?_, World.cell?_setCell_same _ _ _ s2, by simp only [World.frozen?_setCell]; exact h.f0, by simp only [World.frozen?_setCell]; exact h.f1, by simp only [World.frozen?_setCell]; exact h.f2, by simpa using h.z⟩
  · exact (World.cell?_setCell_other _ _ _ _ (ne 2 0 (by decide))).trans ((World.cell?_setCell_other _ _ _ _ (ne 1 0 (by decide))).trans (World.cell?_setCell_same _ _ _ h.c0))
  · exact (World.cell?_setCell_other _ _ _ _ (ne 2 1 (by decide))).trans (World.cell?_setCell_same _ _ _ s1)
set_option maxRecDepth 100000 in
set_option maxHeartbeats 4000000 in
theorem Timed_any (o a d n : Int) (w : World) : Calls Try.prog 40 #[.agg #[.int .i64 o, .int .i64 a, .int .i64 d], .int .i64 n] w fun e w' => e = rTd (timedR o a d n) ∧ Below w.heap.size w w' := by
  obtain ⟨V, hV⟩ : ∃ V, vclk o a d = V := ⟨_, rfl⟩
  have HV := Lib.hid hV
  obtain ⟨N, hN⟩ : ∃ N, inB n 1 10000 = N := ⟨_, rfl⟩
  have HN := Lib.hid hN
  obtain ⟨R, hR⟩ : ∃ R, timedR o a d n = R := ⟨_, rfl⟩
  rw [hR]
  unfold timedR at hR
  rw [hV, hN] at hR
  refine (callsIn_wide (n := 3)).1 ?_
  refine callsIn_of_wp_marks Try.func40 rfl trivial ?_ rfl
  simp only [Try.ntmps40, List.size_toArray, List.length_cons, List.length_nil, Nat.reduceAdd, Nat.reduceSub, Array.replicate_succ, Array.replicate_zero, List.push_toArray, List.append_toArray, List.nil_append, List.cons_append]
  refine wpIn_wide.2 ?_
  cases V
  · have HR : Hid (R = (0, 0, 1)) := Lib.hid hR.symm
    clear hV hN hR
    go_wp2_with (go_at_call 21; (with_reducible refine (vclk_is HV.out).mono ?_); rintro e w1 ⟨rfl, hb1⟩; have HB1 := Lib.hid (((Box3.new w o a d 30).ext (Below.alloc (Below.refl _ _) (Nat.le_refl _) _)).ext hb1); have HB2 := Lib.hid ((Box3.new (w.alloc (.cells #[.int .i64 o, .int .i64 a, .int .i64 d] 30)) 0 0 0 23).ext hb1); rw [World.size_alloc] at HB2; have B1 : Hid (Below w.heap.size w w1) := Lib.hid (Below.trans (by (repeat' (first | (with_reducible exact Below.refl _ _) | (with_reducible assumption) | (with_reducible refine Below.alloc ?_ ?_ _) | (with_reducible refine Below.drew ?_) | (with_reducible refine Below.draws ?_ _) | (with_reducible refine Below.setCell ?_ ?_ _) | (refine Below.then ?_ (by with_reducible assumption)) | go_size))) (hb1.mono (by simp; omega))); clear hb1; obtain ⟨x0, x1, x2, _, _, _, xz⟩ := HB1.out; obtain ⟨y0, y1, y2, yf0, yf1, yf2, yz⟩ := HB2.out)
    (have H3 := Lib.hid (set3 HB2.out 0 0 0); obtain ⟨W, hW⟩ : ∃ x, x = (((w1.setCell ⟨w.heap.size + 1, 0, none⟩ (.int .i64 0)).setCell ⟨w.heap.size + 1, 1, none⟩ (.int .i64 0)).setCell ⟨w.heap.size + 1, 2, none⟩ (.int .i64 0)) := ⟨_, rfl⟩; have hBW : Below w.heap.size w W := (by rw [hW]; exact ((B1.out.setCell (p := ⟨w.heap.size + 1, 0, none⟩) (by simp) _).setCell (p := ⟨w.heap.size + 1, 1, none⟩) (by simp) _).setCell (p := ⟨w.heap.size + 1, 2, none⟩) (by simp) _); rw [← hW] at H3 ⊢; obtain ⟨z0, z1, z2, _, _, _, zz⟩ := H3.out; refine leave0 (v := .tuple #[.agg #[.int .i64 0, .int .i64 0, .int .i64 0], .int .i64 1]) (by simp [results, Try.results40, go_sem, z0, z1, z2]) ⟨by rw [HR.out]; rfl, hBW⟩)
  · cases N
    · have HR : Hid (R = (0, 0, 1)) := Lib.hid hR.symm
      clear hV hN hR
      go_wp2_with (first | (go_at_call 21; (with_reducible refine (vclk_is HV.out).mono ?_); rintro e w1 ⟨rfl, hb1⟩; have HB1 := Lib.hid (((Box3.new w o a d 30).ext (Below.alloc (Below.refl _ _) (Nat.le_refl _) _)).ext hb1); have HB2 := Lib.hid ((Box3.new (w.alloc (.cells #[.int .i64 o, .int .i64 a, .int .i64 d] 30)) 0 0 0 23).ext hb1); rw [World.size_alloc] at HB2; have B1 : Hid (Below w.heap.size w w1) := Lib.hid (Below.trans (by (repeat' (first | (with_reducible exact Below.refl _ _) | (with_reducible assumption) | (with_reducible refine Below.alloc ?_ ?_ _) | (with_reducible refine Below.drew ?_) | (with_reducible refine Below.draws ?_ _) | (with_reducible refine Below.setCell ?_ ?_ _) | (refine Below.then ?_ (by with_reducible assumption)) | go_size))) (hb1.mono (by simp; omega))); clear hb1; obtain ⟨x0, x1, x2, _, _, _, xz⟩ := HB1.out; obtain ⟨y0, y1, y2, yf0, yf1, yf2, yz⟩ := HB2.out) | (go_at_call 48; (with_reducible refine (awithin_is HN.out).mono ?_); rintro e w2 ⟨rfl, rfl⟩))
      (have H3 := Lib.hid (set3 HB2.out 0 0 0); obtain ⟨W, hW⟩ : ∃ x, x = (((w1.setCell ⟨w.heap.size + 1, 0, none⟩ (.int .i64 0)).setCell ⟨w.heap.size + 1, 1, none⟩ (.int .i64 0)).setCell ⟨w.heap.size + 1, 2, none⟩ (.int .i64 0)) := ⟨_, rfl⟩; have hBW : Below w.heap.size w W := (by rw [hW]; exact ((B1.out.setCell (p := ⟨w.heap.size + 1, 0, none⟩) (by simp) _).setCell (p := ⟨w.heap.size + 1, 1, none⟩) (by simp) _).setCell (p := ⟨w.heap.size + 1, 2, none⟩) (by simp) _); rw [← hW] at H3 ⊢; obtain ⟨z0, z1, z2, _, _, _, zz⟩ := H3.out; refine leave0 (v := .tuple #[.agg #[.int .i64 0, .int .i64 0, .int .i64 0], .int .i64 1]) (by simp [results, Try.results40, go_sem, z0, z1, z2]) ⟨by rw [HR.out]; rfl, hBW⟩)
    · have hok : TmOk o a d n := ⟨hV, inB_iff.1 hN⟩
      have HOK := Lib.hid hok
      obtain ⟨vo, va, vd⟩ := vclk_iff.1 hV
      have hn := hok.n
      rw [Bool.and_self, if_pos rfl] at hR
      have HR := Lib.hid hR
      have ha0 : (a == 0) = false := by simp; omega
      have hnd := Int.mul_le_mul hn.2 vd.2 (by omega) (by omega)
      have hnd0 := Int.mul_nonneg (show 0 ≤ n by omega) (show 0 ≤ d by omega)
      have hqd := ediv_bd (a := n * d) (b := a) (m := 10000000) va.1 (by omega) (by omega) (by omega)
      clear hV hN hR
      go_upto_region 4 with (first | (go_at_call 21; (with_reducible refine (vclk_is HV.out).mono ?_); rintro e w1 ⟨rfl, hb1⟩; have HB1 := Lib.hid (((Box3.new w o a d 30).ext (Below.alloc (Below.refl _ _) (Nat.le_refl _) _)).ext hb1); have HB2 := Lib.hid ((Box3.new (w.alloc (.cells #[.int .i64 o, .int .i64 a, .int .i64 d] 30)) 0 0 0 23).ext hb1); rw [World.size_alloc] at HB2; have B1 : Hid (Below w.heap.size w w1) := Lib.hid (Below.trans (by (repeat' (first | (with_reducible exact Below.refl _ _) | (with_reducible assumption) | (with_reducible refine Below.alloc ?_ ?_ _) | (with_reducible refine Below.drew ?_) | (with_reducible refine Below.draws ?_ _) | (with_reducible refine Below.setCell ?_ ?_ _) | (refine Below.then ?_ (by with_reducible assumption)) | go_size))) (hb1.mono (by simp; omega))); clear hb1; obtain ⟨x0, x1, x2, _, _, _, xz⟩ := HB1.out; obtain ⟨y0, y1, y2, yf0, yf1, yf2, yz⟩ := HB2.out) | (go_at_call 48; (with_reducible refine (awithin_is HN.out).mono ?_); rintro e w2 ⟨rfl, rfl⟩))
      have hG : (if n * d / a < 1 then (1 : Int) else n * d / a) = gapT a d n := by unfold gapT; split <;> omega
      rw [hG]
      have hgb : 1 ≤ gapT a d n ∧ gapT a d n ≤ 10000000 := by unfold gapT; omega
      obtain ⟨G, hGG⟩ : ∃ G, gapT a d n = G := ⟨_, rfl⟩
      obtain ⟨A, hA⟩ : ∃ A, atT o a d n 0 = A := ⟨_, rfl⟩
      rw [hGG] at hgb HR ⊢
      rw [hA] at HR
      have HA := Lib.hid hA
      obtain ⟨w3, hw3⟩ : ∃ x, x = w1.alloc (.cells #[.int .i64 0, .int .i64 G, .int .i64 0] 23) := ⟨_, rfl⟩
      have hb13 : Below w1.heap.size w1 w3 := by rw [hw3]; (repeat' (first | (with_reducible exact Below.refl _ _) | (with_reducible assumption) | (with_reducible refine Below.alloc ?_ ?_ _) | (with_reducible refine Below.drew ?_) | (with_reducible refine Below.draws ?_ _) | (with_reducible refine Below.setCell ?_ ?_ _) | (refine Below.then ?_ (by with_reducible assumption)) | go_size))
      have HB3 : Hid (Box3 w3 w1.heap.size 0 G 0) := Lib.hid (by rw [hw3]; exact Box3.new _ _ _ _ _)
      have HB1 := Lib.hid (HB1.out.ext hb13); have HB2 := Lib.hid (HB2.out.ext hb13)
      have B3 := Lib.hid (Below.then B1.out hb13)
      have hz13 : w.heap.size + 1 < w1.heap.size := yz
      have Z13 := Lib.hid hz13
      rw [← hw3]
      clear hG hGG hA hw3 hb13 x0 x1 x2 xz y0 y1 y2 yf0 yf1 yf2 yz hnd hnd0 hqd ha0 hz13
      obtain ⟨x0, x1, x2, _, _, _, xz⟩ := HB1.out
      go_wp2_with (go_at_call 56; (refine (alarms_any o a d n _).mono ?_); rintro e w4 ⟨p, q, rfl, hck, hp4, hq4, hb4⟩)
      have HB1 := Lib.hid (HB1.out.ext hb4); have HB2 := Lib.hid (HB2.out.ext hb4); have HB3 := Lib.hid (HB3.out.ext hb4)
      have B4 := Lib.hid (Below.then B3.out hb4)
      have hz34 := hb4.size
      have hz0 := B4.out.size
      have hQR : ¬ w1.heap.size = w.heap.size + 1 := by have := Z13.out; omega
      have hQz := HB3.out.z
      clear x0 x1 x2 xz hb4
      refine (wpIn_wide (n := 3)).1 ?_
      refine wpIn_told rfl (by omega) (gf := 74) (lb := #[.pointer (some ⟨p, 0, none⟩), .pointer (some ⟨q, 0, none⟩)]) rfl trivial (enters_of Try.func74 (by kernel_rfl) rfl) (encs := fun x : Int => #[Value.int .i64 x]) (fun _ => rfl) (Kp := Kp2 p q) (fun h k => h.trans k)
        (fun W l o o' hl ho hc => Kp2.put W l o' (by have := hck.hp; omega) (by have := hck.hq; omega))
        (fun pre W => pre = [] ∧ Box3 W w1.heap.size 0 G 0 ∧ Box3 W (w.heap.size + 1) 0 0 0 ∧ Below w.heap.size w W)
        (fun c pre W => c = .exit 0 ∧ ∃ x, pre = [x] ∧ Box3 W w1.heap.size x G 0 ∧ Box3 W (w.heap.size + 1) 0 0 0 ∧ Below w.heap.size w W)
        (fun pre W W' row hs hg hr => ⟨hs.1, hs.2.1.kept hg (fun r e => (hr r e).2), hs.2.2.1.kept hg (fun r e => (hr r e).2), ownFrom_below (β := Unit) (Nat.le_refl _) hz0 () W W' row hs.2.2.2 hg hr⟩)
        (fun c pre W W' row hs hg hr => by
          obtain ⟨hc, x, h1, h2, h3, h4⟩ := hs
          exact ⟨hc, x, h1, h2.kept hg (fun r e => (hr r e).2), h3.kept hg (fun r e => (hr r e).2), ownFrom_below (β := Unit) (Nat.le_refl _) hz0 () W W' row h4 hg hr⟩)
        ⟨rfl, HB3.out, HB2.out, B4.out⟩
        (alarms1_told HOK.out p q (3 - 1) hck (fun pre V h => by rw [h.1]; simp))
        (fun x => { tmps := #[.agg #[.int .i64 o, .int .i64 a, .int .i64 d], .int .i64 n, .pointer (some ⟨w.heap.size, 0, none⟩), undef, .pointer (some ⟨w.heap.size + 1, 0, none⟩), .int .i64 0, .pointer (some ⟨w1.heap.size, 0, none⟩), .int .i64 x, .agg #[.int .i64 o, .int .i64 a, .int .i64 d], .bool true, .bool false, .bool false, .int .i64 n, .bool true, .bool false, .bool false, undef, .int .i64 n, .pointer (some ⟨w.heap.size, 2, none⟩), .int .i64 d, .int .i64 (n * d), .pointer (some ⟨w.heap.size, 1, none⟩), .int .i64 a, .int .i64 (n * d / a), .int .i64 G, .agg #[.int .i64 0, .int .i64 G, .int .i64 0], .agg #[.int .i64 o, .int .i64 a, .int .i64 d], .int .i64 n, .func (.func 74) #[] #[.pointer (some ⟨p, 0, none⟩), .pointer (some ⟨q, 0, none⟩)], .int .i64 x, undef, undef, undef, undef, undef, undef, undef], defers := [] }) ?assign ?body ?stop
      case assign =>
        intro l x W K hK
        gi_wp2
        exact hK
      case body =>
        rintro l pre x W ⟨rfl, h3, h2, hB⟩
        obtain ⟨z0, z1, z2, zf0, zf1, zf2, zz⟩ := h3
        gi_wp2
        have hz := hB.size
        exact ⟨(KeepsOthers.setCell _ _ _).from _, rfl, x, rfl, (⟨z0, z1, z2, zf0, zf1, zf2, zz⟩ : Box3 W w1.heap.size 0 G 0).set0 x, h2.other hQR _, hB.setCell (p := ⟨w1.heap.size, 0, none⟩) (by have := Z13.out; simp only []; omega) _⟩
      case stop =>
        rintro D c pre W hD ⟨k, hk1, hk2⟩ ⟨rfl, x, rfl, h3, h2, hB⟩ hK
        have hpn : preT o a d n k = [] := by
          have := congrArg List.length hk2
          simp at this
          exact this
        have hxA : x = A := by
          rw [hpn] at hk2
          simp at hk2
          rw [hk2, ← HA.out]; exact HOK.out.first hpn
        subst hxA
        have hDz : D < W.heap.size := (Array.getElem?_eq_some_iff.1 hK).1
        obtain ⟨V2, hV2⟩ : ∃ v, vpat x G 0 = v := ⟨_, rfl⟩
        have HV2 := Lib.hid hV2
        have HK := Lib.hid hK; have H2 := Lib.hid h2; have HB := Lib.hid hB; have H3 := Lib.hid h3
        have hR2 := HR.out
        rw [hV2] at hR2
        have HR2 := Lib.hid hR2
        obtain ⟨x0, x1, x2, _, _, _, xz⟩ := h3
        clear hpn hk1 hk2 hK h2 hB hV2 hR2 HR
        refine wpIn_wide.2 ?_
        simp only []
        cases V2
        · go_wp2_with (go_at_call 26; (with_reducible refine (avalid_is HV2.out).mono ?_); rintro e w5 ⟨rfl, hb5⟩; have HK5 := Lib.hid ((hb5.block D hDz).trans HK.out); have H25 := Lib.hid (H2.out.ext hb5); have B5 := Lib.hid (Below.then HB.out hb5); clear hb5; obtain ⟨y0, y1, y2, yf0, yf1, yf2, yz⟩ := H25.out)
          have H6 := Lib.hid (set3 H25.out 0 0 0)
          obtain ⟨W6, hW6⟩ : ∃ y, y = (((w5.setCell ⟨w.heap.size + 1, 0, none⟩ (.int .i64 0)).setCell ⟨w.heap.size + 1, 1, none⟩ (.int .i64 0)).setCell ⟨w.heap.size + 1, 2, none⟩ (.int .i64 0)) := ⟨_, rfl⟩
          have hK6 : W6.heap[D]? = some (.deferred (some [])) := by rw [hW6]; exact (keeps_set3 _ _ _ _ _).same D _ HK5.out rfl
          have hB6 : Below w.heap.size w W6 := by rw [hW6]; exact ((B5.out.setCell (p := ⟨w.heap.size + 1, 0, none⟩) (by simp) _).setCell (p := ⟨w.heap.size + 1, 1, none⟩) (by simp) _).setCell (p := ⟨w.heap.size + 1, 2, none⟩) (by simp) _
          rw [← hW6] at H6 ⊢
          have H7 := H6.out.kept (grownBy_putObj' W6 D (.deferred none)) (fun r e => by cases e; exact ⟨_, hK6, rfl⟩)
          obtain ⟨z0, z1, z2, _, _, _, zz⟩ := H7
          have hB7 : Below w.heap.size w (W6.putObj D (.deferred none)) := hB6.trans (belowK_b (w := w) (Nat.le_refl _) W6 D _ _ (by omega) hK6 rfl rfl)
          exact leave1 (v := .tuple #[.agg #[.int .i64 0, .int .i64 0, .int .i64 0], .int .i64 3]) hK6 (by simp [results, Try.results40, go_sem, z0, z1, z2]) ⟨by rw [← HR2.out]; rfl, hB7⟩
        · go_wp2_with (go_at_call 26; (with_reducible refine (avalid_is HV2.out).mono ?_); rintro e w5 ⟨rfl, hb5⟩; have HK5 := Lib.hid ((hb5.block D hDz).trans HK.out); have H25 := Lib.hid (H2.out.ext hb5); have H35 := Lib.hid (H3.out.ext hb5); have B5 := Lib.hid (Below.then HB.out hb5); clear hb5 x0 x1 x2 xz; obtain ⟨x0, x1, x2, _, _, _, xz⟩ := H35.out; obtain ⟨y0, y1, y2, yf0, yf1, yf2, yz⟩ := H25.out)
          have H6 := Lib.hid (set3 H25.out x G 0)
          obtain ⟨W6, hW6⟩ : ∃ y, y = (((w5.setCell ⟨w.heap.size + 1, 0, none⟩ (.int .i64 x)).setCell ⟨w.heap.size + 1, 1, none⟩ (.int .i64 G)).setCell ⟨w.heap.size + 1, 2, none⟩ (.int .i64 0)) := ⟨_, rfl⟩
          have hK6 : W6.heap[D]? = some (.deferred (some [])) := by rw [hW6]; exact (keeps_set3 _ _ _ _ _).same D _ HK5.out rfl
          have hB6 : Below w.heap.size w W6 := by rw [hW6]; exact ((B5.out.setCell (p := ⟨w.heap.size + 1, 0, none⟩) (by simp) _).setCell (p := ⟨w.heap.size + 1, 1, none⟩) (by simp) _).setCell (p := ⟨w.heap.size + 1, 2, none⟩) (by simp) _
          rw [← hW6] at H6 ⊢
          have H7 := H6.out.kept (grownBy_putObj' W6 D (.deferred none)) (fun r e => by cases e; exact ⟨_, hK6, rfl⟩)
          obtain ⟨z0, z1, z2, _, _, _, zz⟩ := H7
          have hB7 : Below w.heap.size w (W6.putObj D (.deferred none)) := hB6.trans (belowK_b (w := w) (Nat.le_refl _) W6 D _ _ (by omega) hK6 rfl rfl)
          exact leave1 (v := .tuple #[.agg #[.int .i64 x, .int .i64 G, .int .i64 0], .int .i64 0]) hK6 (by simp [results, Try.results40, go_sem, z0, z1, z2]) ⟨by rw [← HR2.out]; rfl, hB7⟩
end Go.Proofs.Ytfiggbeaomkepaa
