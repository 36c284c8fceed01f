/- The contract of Timer of the program. No condition. -/
import Derived.Test.YtfiggbeaomkepaaTmTimed
import Derived.Maps.AppendAt
import Derived.RangeFuncBox
namespace Go.Proofs.Ytfiggbeaomkepaa
open Go.RowKit Go.Shelf
set_option linter.unusedSimpArgs false
set_option linter.unusedVariables false
attribute [local go_sem] Oper.semAt_some
theorem infoI : (Try.prog.info? 3).map (fun i => (i.zero, i.size, i.bytes)) = some (some (.int .i64 0), 1, 8) := by kernel_rfl
open Classical in
/-- the moments that Timer gives -/
noncomputable def tmR (o a d n u : Int) : List Int := if h : ∃ l, IsTm o a d n u l then Classical.choose h else []
theorem tmR_is {o a d n u : Int} (h : TmOk o a d n) {l : List Int} (hl : IsTm o a d n u l) : tmR o a d n u = l := by
  have hex : ∃ l, IsTm o a d n u l := ⟨l, hl⟩
  unfold tmR
  rw [dif_pos hex]
  exact IsTm.unique h (Classical.choose_spec hex) hl
def tmC (o a d n u : Int) : Bool := vclk o a d && (inB n 1 10000 && inB u 0 1000000)
def OutTm (B : Nat) (w : World) (l : List Int) (er : Int) (e : Ending) (w' : World) : Prop :=
  ∃ a n c, e = .returned (.tuple #[.slice a n c, .int .i64 er]) ∧ w'.ownsRow B 3 1 (.slice a n c) n (l.flatMap enc1) ∧ Below B w w'
theorem row_slice {W : World} {B e k n : Nat} {v : Value} {xs : List Value} (h : W.ownsRow B e k v n xs) : ∃ a c, v = .slice a n c := by
  rcases h.2 with ⟨rfl, h8⟩ | ⟨g, cap, cur, rfl, _⟩
  · exact ⟨none, 0, by rw [h8]⟩
  · exact ⟨_, _, rfl⟩
theorem row_high {W : World} {B e k n p : Nat} {v : Value} {xs : List Value} (h : W.ownsRow B e k v n xs) (hp : p < B) : some p ≠ v.ownBlock := by
  rcases h.2 with ⟨rfl, _⟩ | ⟨g, cap, cur, rfl, hB, _⟩
  · simp [Value.ownBlock]
  · intro q
    obtain rfl : p = g := by simpa [Value.ownBlock] using q
    omega
theorem boxed_ext {W W' : World} {B : Nat} {t : TypeId} {v : Value} (h : Boxed W B t v) (hb : Below W.heap.size W W') : Boxed W' B t v := (hb.block B h.lt).trans h
/-- between two rounds -/
structure ITm (w : World) (Q N0 : Nat) (u : Int) (pre : List Int) (W : World) : Prop where
  row : ∃ v, Boxed W Q 55 v ∧ W.ownsRow N0 3 1 v pre.length (pre.flatMap enc1) ∧ True
  hu : W.cell? ⟨w.heap.size + 1, 0, none⟩ = some (.int .i64 u)
  uz : w.heap.size + 1 < W.heap.size
  le : ∀ x ∈ pre, x ≤ u
  len : pre.length ≤ 40
  lb : Below w.heap.size w W
  z : N0 ≤ W.heap.size
theorem ITm.own {w : World} {Q N0 : Nat} {u : Int} (hN : w.heap.size ≤ N0) : OwnFrom N0 (ITm w Q N0 u) := fun pre W W' row hs hg hr =>
  ⟨holdsRow_own (β := List Int) N0 Q 55 3 1 (fun p => p.length) (fun p => p.flatMap enc1) (fun _ _ => True) pre W W' row hs.row hg (fun r e => (hr r e).2), cell_kept hs.hu hg (fun r e => (hr r e).2), Nat.lt_of_lt_of_le hs.uz hg.size, hs.le, hs.len, ownFrom_below (β := Unit) (Nat.le_refl _) hN () W W' row hs.lb hg hr, Nat.le_trans hs.z hg.size⟩
theorem ITm.put {w : World} {Q N0 : Nat} {u : Int} {pre : List Int} {W : World} (h : ITm w Q N0 u pre W) (hN : w.heap.size ≤ N0) {D : Nat} {o : Obj} (o' : Obj) (hD : N0 ≤ D) (hK : W.heap[D]? = some o) (ho : o.isCells = false) : ITm w Q N0 u pre (W.putObj D o') :=
  (ITm.own hN).putObj o' h hD hK ho
set_option maxRecDepth 100000 in
set_option maxHeartbeats 4000000 in
theorem Timer_any (o a d n u : Int) (w : World) : Calls Try.prog 38 #[.agg #[.int .i64 o, .int .i64 a, .int .i64 d], .int .i64 n, .int .i64 u] w (OutTm w.heap.size w (if tmC o a d n u = true then tmR o a d n u else []) (if tmC o a d n u = true then 0 else 1)) := by
  obtain ⟨V, hV⟩ : ∃ V, vclk o a d = V := ⟨_, rfl⟩
  have HV := Lib.hid hV
  obtain ⟨N, hN⟩ : ∃ N, inB n 1 10000 = N := ⟨_, rfl⟩
  have HN := Lib.hid hN
  obtain ⟨U, hU⟩ : ∃ U, inB u 0 1000000 = U := ⟨_, rfl⟩
  have HU := Lib.hid hU
  have hC : tmC o a d n u = (V && (N && U)) := by unfold tmC; rw [hV, hN, hU]
  rw [hC]
  clear hC
  refine (callsIn_wide (n := 3)).1 ?_
  refine callsIn_of_wp_marks Try.func38 rfl trivial ?_ rfl
  simp only [Try.ntmps38, List.size_toArray, List.length_cons, List.length_nil, Nat.reduceAdd, Nat.reduceSub, Array.replicate_succ, Array.replicate_zero, List.push_toArray, List.append_toArray, List.nil_append, List.cons_append]
  refine wpIn_wide.2 ?_
  cases V
  · rw [Bool.false_and, if_neg (by simp), if_neg (by simp)]
    clear hV hN hU
    go_wp2_with (go_at_call 21; (with_reducible refine (vclk_is HV.out).mono ?_); rintro e w1 ⟨rfl, hb1⟩; have HB1 := Lib.hid (((Box3.new w o a d 30).ext (Below.alloc (Below.refl _ _) (Nat.le_refl _) _)).ext hb1); have hu1 := (hb1.cell (p := ⟨w.heap.size + 1, 0, none⟩) (by simp)).trans (show _ = some (.int .i64 u) by simp [go_sem]); have huz : w.heap.size + 1 < w1.heap.size := Nat.lt_of_lt_of_le (by simp) hb1.size; have B1 : Hid (Below w.heap.size w w1) := Lib.hid (Below.trans (by (repeat' (first | (with_reducible exact Below.refl _ _) | (with_reducible assumption) | (with_reducible refine Below.alloc ?_ ?_ _) | (with_reducible refine Below.drew ?_) | (with_reducible refine Below.draws ?_ _) | (with_reducible refine Below.setCell ?_ ?_ _) | (refine Below.then ?_ (by with_reducible assumption)) | go_size))) (hb1.mono (by simp; omega))); clear hb1; obtain ⟨x0, x1, x2, _, _, _, xz⟩ := HB1.out)
    (refine leave0 (v := .tuple #[.slice none 0 0, .int .i64 1]) (by simp [results, Try.results38, go_sem]) ⟨none, 0, 0, rfl, World.ownsRow_nil _ _ _ _, B1.out⟩)
  · cases N
    · rw [Bool.false_and, Bool.and_false, if_neg (by simp), if_neg (by simp)]
      clear hV hN hU
      go_wp2_with (first | (go_at_call 21; (with_reducible refine (vclk_is HV.out).mono ?_); rintro e w1 ⟨rfl, hb1⟩; have HB1 := Lib.hid (((Box3.new w o a d 30).ext (Below.alloc (Below.refl _ _) (Nat.le_refl _) _)).ext hb1); have hu1 := (hb1.cell (p := ⟨w.heap.size + 1, 0, none⟩) (by simp)).trans (show _ = some (.int .i64 u) by simp [go_sem]); have huz : w.heap.size + 1 < w1.heap.size := Nat.lt_of_lt_of_le (by simp) hb1.size; have B1 : Hid (Below w.heap.size w w1) := Lib.hid (Below.trans (by (repeat' (first | (with_reducible exact Below.refl _ _) | (with_reducible assumption) | (with_reducible refine Below.alloc ?_ ?_ _) | (with_reducible refine Below.drew ?_) | (with_reducible refine Below.draws ?_ _) | (with_reducible refine Below.setCell ?_ ?_ _) | (refine Below.then ?_ (by with_reducible assumption)) | go_size))) (hb1.mono (by simp; omega))); clear hb1; obtain ⟨x0, x1, x2, _, _, _, xz⟩ := HB1.out) | (go_at_call 48; (with_reducible refine (awithin_is HN.out).mono ?_); rintro e w2 ⟨rfl, rfl⟩))
      (refine leave0 (v := .tuple #[.slice none 0 0, .int .i64 1]) (by simp [results, Try.results38, go_sem]) ⟨none, 0, 0, rfl, World.ownsRow_nil _ _ _ _, B1.out⟩)
    · cases U
      · rw [Bool.and_false, Bool.and_false, if_neg (by simp), if_neg (by simp)]
        clear hV hN hU
        go_wp2_with (first | (go_at_call 21; (with_reducible refine (vclk_is HV.out).mono ?_); rintro e w1 ⟨rfl, hb1⟩; have HB1 := Lib.hid (((Box3.new w o a d 30).ext (Below.alloc (Below.refl _ _) (Nat.le_refl _) _)).ext hb1); have hu1 := (hb1.cell (p := ⟨w.heap.size + 1, 0, none⟩) (by simp)).trans (show _ = some (.int .i64 u) by simp [go_sem]); have huz : w.heap.size + 1 < w1.heap.size := Nat.lt_of_lt_of_le (by simp) hb1.size; have B1 : Hid (Below w.heap.size w w1) := Lib.hid (Below.trans (by (repeat' (first | (with_reducible exact Below.refl _ _) | (with_reducible assumption) | (with_reducible refine Below.alloc ?_ ?_ _) | (with_reducible refine Below.drew ?_) | (with_reducible refine Below.draws ?_ _) | (with_reducible refine Below.setCell ?_ ?_ _) | (refine Below.then ?_ (by with_reducible assumption)) | go_size))) (hb1.mono (by simp; omega))); clear hb1; obtain ⟨x0, x1, x2, _, _, _, xz⟩ := HB1.out) | (go_at_call 48; (with_reducible refine (awithin_is HN.out).mono ?_); rintro e w2 ⟨rfl, rfl⟩) | (go_at_call 48; (with_reducible refine (awithin_is HU.out).mono ?_); rintro e w2 ⟨rfl, rfl⟩))
        (refine leave0 (v := .tuple #[.slice none 0 0, .int .i64 1]) (by simp [results, Try.results38, go_sem]) ⟨none, 0, 0, rfl, World.ownsRow_nil _ _ _ _, B1.out⟩)
      · have hok : TmOk o a d n := ⟨hV, inB_iff.1 hN⟩
        have HOK := Lib.hid hok
        rw [Bool.true_and, Bool.true_and, if_pos rfl, if_pos rfl]
        clear hV hN hU hok
        go_upto_region 4 with (first | (go_at_call 21; (with_reducible refine (vclk_is HV.out).mono ?_); rintro e w1 ⟨rfl, hb1⟩; have HB1 := Lib.hid (((Box3.new w o a d 30).ext (Below.alloc (Below.refl _ _) (Nat.le_refl _) _)).ext hb1); have hu1 := (hb1.cell (p := ⟨w.heap.size + 1, 0, none⟩) (by simp)).trans (show _ = some (.int .i64 u) by simp [go_sem]); have huz : w.heap.size + 1 < w1.heap.size := Nat.lt_of_lt_of_le (by simp) hb1.size; have B1 : Hid (Below w.heap.size w w1) := Lib.hid (Below.trans (by (repeat' (first | (with_reducible exact Below.refl _ _) | (with_reducible assumption) | (with_reducible refine Below.alloc ?_ ?_ _) | (with_reducible refine Below.drew ?_) | (with_reducible refine Below.draws ?_ _) | (with_reducible refine Below.setCell ?_ ?_ _) | (refine Below.then ?_ (by with_reducible assumption)) | go_size))) (hb1.mono (by simp; omega))); clear hb1; obtain ⟨x0, x1, x2, _, _, _, xz⟩ := HB1.out) | (go_at_call 48; (with_reducible refine (awithin_is HN.out).mono ?_); rintro e w2 ⟨rfl, rfl⟩) | (go_at_call 48; (with_reducible refine (awithin_is HU.out).mono ?_); rintro e w2 ⟨rfl, rfl⟩))
        obtain ⟨w3, hw3⟩ : ∃ x, x = w1.alloc (.cells #[.slice none 0 0] 55) := ⟨_, rfl⟩
        have hb13 : Below w1.heap.size w1 w3 := by rw [hw3]; (repeat' (first | (with_reducible exact Below.refl _ _) | (with_reducible assumption) | (with_reducible refine Below.alloc ?_ ?_ _) | (with_reducible refine Below.drew ?_) | (with_reducible refine Below.draws ?_ _) | (with_reducible refine Below.setCell ?_ ?_ _) | (refine Below.then ?_ (by with_reducible assumption)) | go_size))
        have HX3 : Hid (Boxed w3 w1.heap.size 55 (.slice none 0 0)) := Lib.hid (by rw [hw3]; exact Boxed.new _ _ _)
        have HB1 := Lib.hid (HB1.out.ext hb13)
        have B3 := Lib.hid (Below.then B1.out hb13)
        have hu3 := (hb13.cell (p := ⟨w.heap.size + 1, 0, none⟩) huz).trans hu1
        have hu3z := Nat.lt_of_lt_of_le huz hb13.size
        have HQ1 := Lib.hid (show w.heap.size + 1 < w1.heap.size from huz)
        have HU3 := Lib.hid hu3
        rw [← hw3]
        clear hw3 hb13 x0 x1 x2 xz hu1 huz hu3
        obtain ⟨x0, x1, x2, _, _, _, xz⟩ := HB1.out
        go_wp2_with (go_at_call 56; (refine (alarms_any o a d n _).mono ?_); rintro e w4 ⟨p, q, rfl, hck, hp4, hq4, hb4⟩)
        have HX4 := Lib.hid (boxed_ext HX3.out hb4)
        have B4 := Lib.hid (Below.then B3.out hb4)
        have HU4 := Lib.hid ((hb4.cell (p := ⟨w.heap.size + 1, 0, none⟩) hu3z).trans HU3.out)
        have hz34 := hb4.size
        have HN4 := Lib.hid B4.out.size
        have HQw := Lib.hid (show w.heap.size ≤ w1.heap.size by have := HQ1.out; omega)
        have hu4z : w.heap.size + 1 < w4.heap.size := by omega
        have hQ4 := HX4.out.lt
        obtain ⟨i0, hi, hz0, hz1, hz2⟩ := info_parts infoI
        have hpz := hck.hp; have hqz := hck.hq
        have hpQ : ¬ p = w1.heap.size := by have := HX3.out.lt; omega
        have hqQ : ¬ q = w1.heap.size := by have := HX3.out.lt; omega
        clear x0 x1 x2 xz hb4 hu3z
        refine (wpIn_wide (n := 3)).1 ?_
        refine wpIn_told rfl (by omega) (gf := 74) (lb := #[.pointer (some ⟨p, 0, none⟩), .pointer (some ⟨q, 0, none⟩)]) rfl trivial (enters_of Try.func74 (by kernel_rfl) rfl) (encs := fun x : Int => #[Value.int .i64 x]) (fun _ => rfl) (Kp := Kp2 p q) (fun h k => h.trans k)
          (fun W l o o' hl ho hc => Kp2.put W l o' (by omega) (by omega))
          (ITm w w1.heap.size w4.heap.size u)
          (fun c pre W => c = .exit 0 ∧ ∃ r x, pre = r ++ [x] ∧ (u < x ∨ r.length = 40) ∧ ITm w w1.heap.size w4.heap.size u r W)
          (ITm.own HN4.out)
          (fun c pre W W' row hs hg hr => by
            obtain ⟨hc, r, x, h1, h2, h3⟩ := hs
            exact ⟨hc, r, x, h1, h2, ITm.own HN4.out r W W' row h3 hg hr⟩)
          ⟨⟨_, HX4.out, World.ownsRow_nil _ _ _ _, trivial⟩, HU4.out, hu4z, fun x hx => (by cases hx), by simp, B4.out, Nat.le_refl _⟩
          (alarms1_told HOK.out p q (3 - 1) hck (fun pre V h => h.len))
          (fun x => { tmps := #[.agg #[.int .i64 o, .int .i64 a, .int .i64 d], .int .i64 n, .int .i64 u, .pointer (some ⟨w.heap.size, 0, none⟩), undef, .pointer (some ⟨w.heap.size + 1, 0, none⟩), .slice none 0 0, .int .i64 0, .pointer (some ⟨w1.heap.size, 0, none⟩), .int .i64 x, .agg #[.int .i64 o, .int .i64 a, .int .i64 d], .bool true, .bool false, .bool false, .int .i64 n, .bool true, .bool false, .bool false, .bool false, .int .i64 u, .bool true, .bool false, .bool false, .agg #[.int .i64 o, .int .i64 a, .int .i64 d], .int .i64 n, .func (.func 74) #[] #[.pointer (some ⟨p, 0, none⟩), .pointer (some ⟨q, 0, none⟩)], .int .i64 x, undef, undef, undef, undef, undef, undef, undef, undef, undef, undef, undef, undef, undef], defers := [] }) ?assign ?body ?stop
        case assign =>
          intro l x W K hK
          gi_wp2
          exact hK
        case body =>
          intro l pre x W hI
          obtain ⟨v, hv, hrow, _⟩ := hI.row
          obtain ⟨va, vc, rfl⟩ := row_slice hrow
          have hc0 := hv.cell
          have hlt := hv.lt
          have hu0 := hI.hu
          have huz := hI.uz
          have hl40 := hI.len
          have hWz := hI.z
          have HWz := Lib.hid (show w.heap.size ≤ W.heap.size by have := HN4.out; omega)
          have HI := Lib.hid hI
          clear hI
          by_cases h1 : u < x
          · have d1 : decide (u < x) = true := by simpa using h1
            gi_wp2
            exact ⟨KeepsFrom.refl _ _, rfl, pre, x, rfl, .inl h1, HI.out⟩
          · have d1 : decide (u < x) = false := by simpa using h1
            by_cases h2 : pre.length = 40
            · have d2 : ((pre.length : Int) == 40) = true := by simp; omega
              gi_wp2
              exact ⟨KeepsFrom.refl _ _, rfl, pre, x, rfl, .inr h2, HI.out⟩
            · have d2 : ((pre.length : Int) == 40) = false := by simp; omega
              gi_wp2_with (gi_at_builtin; refine wpListIn_append_own _ rfl _ _ 55 rfl w4.heap.size 3 i0 (.int .i64 0) 1 8 Try.underlying55 hi hz0 hz1 hz2 rfl (by decide) _ _ _ rfl (hrow.alloc _) ⟨W.heap.size, 0, none⟩ 1 1 [.int .i64 x] rfl rfl (cell_one_new _ _ _) (by simp [Value.oneCell']) (by unfold maxLen; omega) (by omega) (by simp; omega) ?_; intro v' w5 hown' hgrow _; obtain ⟨g', cap', rfl⟩ := ownsRow_succ hown'; obtain ⟨hv1, hv2, hr2, hk2, hb2⟩ := hv.appended (by decide) (owns_mono hrow HN4.out) HWz.out HQw.out (owns_mono hown' HN4.out) hgrow; have hc1 := hv1.cell; have hf1 := hv1.frozen; have hvz := hv1.lt)
              have hgz := hgrow.size
              simp at hgz
              have hne := hv1.not_row (by decide) hown'
              have keepb : ∀ b, b < w4.heap.size → b ≠ w1.heap.size → (w5.setCell ⟨w1.heap.size, 0, none⟩ (.slice (some ⟨g', 0, none⟩) (pre.length + 1) cap')).heap[b]? = W.heap[b]? := fun b hb hbQ => by
                rw [Below.heap_setCell _ _ _ b hbQ, hgrow.block b (by simp; omega) (row_high hrow hb)]
                exact Below.heap_alloc _ _ _ (by omega)
              refine ⟨hk2.from _, ⟨by simp; omega, keepb p hpz hpQ, keepb q hqz hqQ⟩, ⟨_, hv2, by simpa [enc1] using hown'.kept (grownBy_setCell' w5 w1.heap.size _) (.inr hne.symm), trivial⟩, (cell_heap (keepb (w.heap.size + 1) hu4z (by have := HQ1.out; omega))).trans hu0, by simp; omega, fun y hy => ?_, by simp; omega, ?_, by simp; omega⟩
              · rcases List.mem_append.1 hy with hy | hy
                · exact HI.out.le y hy
                · simp at hy; omega
              · exact HI.out.lb.trans hb2
        case stop =>
          rintro D c pre W hD ⟨k, hk1, hk2⟩ ⟨rfl, r, x, hp, hux, hI⟩ hK
          obtain ⟨hr, hx⟩ := List.append_inj' (hp.symm.trans hk2) rfl
          simp at hx
          have hIs : IsTm o a d n u r := ⟨hI.le, hI.len, k, hr, by rw [hx] at hux; exact hux.symm⟩
          have HTM := Lib.hid (tmR_is HOK.out hIs)
          obtain ⟨v, hv, hrow, _⟩ := hI.row
          obtain ⟨va, vc, rfl⟩ := row_slice hrow
          have hc0 := hv.cell
          have hlt := hv.lt
          have HI := Lib.hid hI; have HK := Lib.hid hK; have HROW := Lib.hid hrow
          clear hI hk1 hk2 hp hux hr hx hIs hv hrow hK
          refine wpIn_wide.2 ?_
          simp only []
          go_wp2
          refine leave1 (v := .tuple #[.slice va r.length vc, .int .i64 0]) HK.out (by simp [results, Try.results38, go_sem]) ⟨_, _, _, rfl, by rw [HTM.out]; exact ownsRow_putObj (owns_mono HROW.out HN4.out) _ HK.out rfl, HI.out.lb.trans (belowK_b (w := w) (Nat.le_refl _) W D _ _ (by have := HN4.out; omega) HK.out rfl rfl)⟩
end Go.Proofs.Ytfiggbeaomkepaa
