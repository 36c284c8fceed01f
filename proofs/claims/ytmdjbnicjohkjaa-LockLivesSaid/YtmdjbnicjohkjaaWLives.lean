/- The openings for LockLives and its walk: it returns true. The conditions: the ints and the turns read as named. -/
import Derived.Test.YtmdjbnicjohkjaaLkLets
import Derived.Test.YtmdjbnicjohkjaaLkOpen
import Derived.Test.YtmdjbnicjohkjaaWAsks
import Derived.Test.YtmdjbnicjohkjaaWEff
import Derived.Deep.RegionHeld3
namespace Go.Proofs.Ytmdjbnicjohkjaa
set_option linter.unusedSimpArgs false
set_option linter.unusedVariables false
section
open Go.ChangeShapes Go.WideShapes Go.ChangeAt Go.RowKit Go.Joins Go.Deep
/-- a turn -/
structure Tu where
  lets : Bool
  t : Int
  l : Int
deriving Inhabited
def encTu (u : Tu) : List Value := [.bool u.lets, .int .i64 u.t, .int .i64 u.l]
set_option maxRecDepth 100000 in
theorem opens_turn : Opens Try.prog 77 (fun _ cs (y : Tu) => cs = encTu y) := by
  intro H enc w base spare held fuel cs x h
  obtain ⟨xs, n, _, hx, hl, hxl, hf⟩ := DataW.trod_struct Try.underlying77 h
  have hc : Try.prog.cellsOf 77 = 3 := by kernel_rfl
  have hc1 : Try.prog.cellsOf 3 = 1 := by kernel_rfl
  have hc2 : Try.prog.cellsOf 4 = 1 := by kernel_rfl
  rw [hc] at hl
  match cs, hl, xs, hxl with
  | [u0, u1, u2], _, [x0, x1, x2], _ =>
    have g0 := hf 0 _ rfl
    have g1 := hf 1 _ rfl
    have g2 := hf 2 _ rfl
    simp [hc1, hc2] at g0 g1 g2
    obtain ⟨p, e0, _⟩ := DataW.trod_bool Try.underlying4 g0
    obtain ⟨l, e1, _⟩ := DataW.trod_int Try.underlying3 g1
    obtain ⟨m, e2, _⟩ := DataW.trod_int Try.underlying3 g2
    simp at e0 e1 e2
    subst e0; subst e1; subst e2
    exact ⟨⟨p, l, m⟩, rfl⟩
set_option maxRecDepth 100000 in
theorem open_Is {H : Type} {enc : TypeId × Value → H} {w : World} {base b0 : Nat} {spare : Nat → Bool} {held : Bool} {r : Reach} {v : Value} {d : DataW H} {ps : List MemPlace}
    (hv : Value.okWide Try.prog w r b0 27 v) (h : DataW.Trod enc Try.prog w base spare held 27 v d ps) : ∃ a n c, v = .slice a n c ∧ ∃ xs : List Int, Rd w a n 1 (xs.map enc1) := by
  obtain ⟨a0, n0, c0, rfl⟩ := okWide_slice Try.underlying27 hv
  obtain ⟨fuel, hf⟩ := h
  obtain ⟨ys, a, n, c, e, h1, h2⟩ := opens_slice (en := enc1) (k := 1) Try.underlying27 (by kernel_rfl) (by decide) (opens_int Try.underlying3) hf
  simp [Value.cells] at e
  obtain ⟨rfl, rfl, rfl⟩ := e
  exact ⟨_, _, _, rfl, ys, h1⟩
set_option maxRecDepth 100000 in
theorem open_Tus {H : Type} {enc : TypeId × Value → H} {w : World} {base b0 : Nat} {spare : Nat → Bool} {held : Bool} {r : Reach} {v : Value} {d : DataW H} {ps : List MemPlace}
    (hv : Value.okWide Try.prog w r b0 75 v) (h : DataW.Trod enc Try.prog w base spare held 75 v d ps) : ∃ a n c, v = .slice a n c ∧ ∃ xs : List Tu, Rd w a n 3 (xs.map encTu) := by
  obtain ⟨a0, n0, c0, rfl⟩ := okWide_slice Try.underlying75 hv
  obtain ⟨fuel, hf⟩ := h
  obtain ⟨ys, a, n, c, e, h1, h2⟩ := opens_slice (en := encTu) (k := 3) Try.underlying75 (by kernel_rfl) (by decide) opens_turn hf
  simp [Value.cells] at e
  obtain ⟨rfl, rfl, rfl⟩ := e
  exact ⟨_, _, _, rfl, ys, h1⟩
theorem Rd.turn {w : World} {a : Option Addr} {n : Nat} {xs : List Tu} (h : Rd w a n 3 (xs.map encTu)) (k : Nat) (hk : k < n) : ∃ (u : Tu) (b off : Nat), a = some ⟨b, off, none⟩ ∧ b < w.heap.size ∧
    w.cell? ⟨b, off + k * 3, none⟩ = some (.bool u.lets) ∧ w.cell? ⟨b, off + k * 3 + 1, none⟩ = some (.int .i64 u.t) ∧ w.cell? ⟨b, off + k * 3 + 2, none⟩ = some (.int .i64 u.l) := by
  have hl : k < xs.length := by rw [h.length]; exact hk
  obtain ⟨b, off, rfl, hlt, hc⟩ := h.at_ (by omega)
  have c0 := hc k (by simpa using hl) 0 (by omega)
  have c1 := hc k (by simpa using hl) 1 (by omega)
  have c2 := hc k (by simpa using hl) 2 (by omega)
  simp [encTu] at c0 c1 c2
  exact ⟨xs[k], b, off, rfl, hlt, c0, c1, c2⟩
/-- a graph that is safe: valid, without a circle -/
structure Safe (G : List Th) : Prop where
  v : validG G = true
  c : (circleR G).2 = 3
/-- nobody holds, nobody waits -/
structure Fresh (G : List Th) : Prop where
  len : G.length ≤ 8
  th : ∀ t ∈ G, (0 ≤ t.pri ∧ t.pri ≤ 99) ∧ t.holds = [] ∧ t.waits = -1
theorem Fresh.safe {G : List Th} (h : Fresh G) : Safe G := by
  have hv : validG G = true := by
    rw [validG_iff]
    refine ⟨h.len, fun t ht => ?_, ?_⟩
    · obtain ⟨h1, h2, h3⟩ := h.th t ht
      refine ⟨?_, ?_, fun q => by omega⟩
      · simp only [thOk, Bool.and_eq_true, Bool.or_eq_true, decide_eq_true_eq, inB_iff]
        omega
      · rw [h2]; exact ⟨List.Pairwise.nil, by simp⟩
    · rw [List.pairwise_iff_getElem]
      intro i j hi hj hij
      have h2 := (h.th _ (List.getElem_mem hi)).2.1
      unfold Sep
      rw [h2]; simp
  refine ⟨hv, ?_⟩
  rcases circleR_cases hv with q | q
  · obtain ⟨i, hi, e⟩ := (circle_iff hv).1 q
    have hw := (h.th _ (List.getElem_mem hi)).2.2
    have hn : nextG G i = -1 := by unfold nextG; rw [List.getElem?_eq_getElem hi]; simp only []; rw [if_pos (by omega)]
    have hg : G.length = (G.length - 1) + 1 := by omega
    unfold circG at e
    rw [hn, hg, circGo] at e
    simp at e
  · rw [q.1]
theorem Safe.ask {G A : List Th} {t l : Int} {b : Bool} (h : Safe G) (e : askR G t l = (A, b, 0)) : Safe A := by
  have hk := ask_keeps (G := G) (t := t) (l := l) (by rw [e])
  rw [e] at hk
  exact ⟨hk.v, by rw [hk.circ]; exact h.c⟩
theorem Safe.letGo {G A : List Th} {t l b : Int} (h : Safe G) (e : letR G t l = (A, b, 0)) : Safe A := by
  have hk := let_full (G := G) (t := t) (l := l) (by rw [e])
  rw [e] at hk
  exact ⟨hk.keeps.v, circR_none hk.keeps (by rw [h.c]; decide)⟩
theorem Safe.next {G : List Th} (h : Safe G) (hne : 0 < G.length) : (nextR G).2 = 0 := by
  have hc : ∀ i, i < G.length → circG G i = false := by
    rcases circleR_cases h.v with q | q
    · rw [h.c] at q; simp at q
    · exact q.2
  obtain ⟨b, _, hb, _⟩ := goes_pure h.v hne hc
  rw [hb]
end
open Go.RowKit
theorem and1023 (x : Int) : 0 ≤ bits .and .i64 x 1023 ∧ bits .and .i64 x 1023 ≤ 1023 := by
  have h1 : (BitVec.ofInt 64 1023).toNat = 1023 := by decide
  have h2 : (BitVec.ofInt 64 x &&& BitVec.ofInt 64 1023).toNat ≤ 1023 := by
    rw [BitVec.toNat_and, h1]; exact Nat.and_le_right
  have h3 : bits .and .i64 x 1023 = IntKind.i64.wrap (((BitVec.ofInt 64 x &&& BitVec.ofInt 64 1023).toNat : Nat) : Int) := rfl
  rw [h3]
  generalize (BitVec.ofInt 64 x &&& BitVec.ofInt 64 1023).toNat = m at *
  have h4 : IntKind.i64.wrap (m : Int) = m := by
    simp [IntKind.wrap, IntKind.bits, IntKind.signed]
    omega
  rw [h4]; omega
theorem pri_ok (x : Int) : 0 ≤ (bits .and .i64 x 1023).tmod 100 ∧ (bits .and .i64 x 1023).tmod 100 ≤ 99 := by
  obtain ⟨h1, h2⟩ := and1023 x
  have h3 := Int.tmod_eq_emod_of_nonneg (b := 100) h1
  rw [h3]; omega
set_option maxRecDepth 100000 in
set_option maxHeartbeats 8000000 in
theorem lockLives_walk {w : World} (a : Option Addr) (n c : Nat) (xs : List Int) (hX : Rd w a n 1 (xs.map enc1)) (a2 : Option Addr) (n2 c2 : Nat) (us : List Tu) (hU : Rd w a2 n2 3 (us.map encTu)) :
    Calls Try.prog 12 #[.slice a n c, .slice a2 n2 c2] w fun e w' => e = .returned (.bool true) ∧ Below w.heap.size w w' := by
  have hs := hX.small
  have hs2 := hU.small
  have HX := Lib.hid hX
  have HU := Lib.hid hU
  have e1 := ETl
  clear hX hU
  go_enter Try.func12, Try.ntmps12
  go_wp2
  go_loopw [5, 6] (fun v i wr => ∃ (k : Nat) (g' : List ThV) (a' : Option Addr) (c' : Nat), k ≤ n ∧ k ≤ 8 ∧ v = .slice a' k c' ∧ i = .int .i64 k ∧ OwnG 52 w.heap.size wr a' k c' g' ∧ Fresh (g'.map ThV.th) ∧ (∀ t ∈ g', t.a = none ∧ t.n = 0 ∧ t.c = 0 ∧ t.holds = []) ∧ Below w.heap.size w wr) (fun _ i _ => 8 - (intOf i).toNat)
  case atStart => exact ⟨0, [], none, 0, Nat.zero_le _, by omega, rfl, rfl, ⟨World.ownsRow_nil _ _ _ _, by simp⟩, ⟨by simp, by simp⟩, by simp, Below.refl _ _⟩
  case round =>
    obtain ⟨k, g', a', c', hk, hk8, rfl, rfl, ho, hF, hnil, hB⟩ := hrel
    have HO := Lib.hid ho; have HF := Lib.hid hF; have HNL := Lib.hid hnil; have HB := Lib.hid hB
    have hz := hB.size
    have hgl : g'.length = k := ho.rd.length
    clear ho hF hB hnil
    by_cases hlt : k < n
    · by_cases hlt8 : k < 8
      · obtain ⟨x, b, off, rfl, hb, hc, hx⟩ := (HX.out.ext HB.out).idx k hlt
        have hlt8' : (k : Int) < 8 := by omega
        clear hx
        go_wp2_with (at_builtin; refine wpList_push (B := w.heap.size) rfl _ _ _ rfl e1 rfl HO.out.own rfl rfl (by intro u hu; simp at hu; rcases hu with rfl | rfl | rfl <;> rfl) (by omega) (by decide) hz ?_; intro a3 c3 w3 hown3 hb3; have HO3 := Lib.hid hown3; have B3 := Lib.hid hb3; clear hown3 hb3)
        go_roundw
        case rel =>
          refine ⟨k + 1, g' ++ [⟨(bits .and .i64 x 1023).tmod 100, none, 0, 0, -1, []⟩], a3, c3, by omega, by omega, rfl, by go_num, ⟨by rw [List.flatMap_append]; exact HO3.out, fun t ht => ?_⟩, ⟨by simp; omega, fun t ht => ?_⟩, fun t ht => ?_, HB.out.trans B3.out⟩
          · rcases List.mem_append.1 ht with ht | ht
            · obtain ⟨q1, q2, q3, q4⟩ := HNL.out t ht
              unfold ThO
              rw [q1, q2, q3, q4]
              exact World.ownsRow_nil _ _ _ _
            · simp at ht
              subst ht
              exact World.ownsRow_nil _ _ _ _
          · rw [List.map_append] at ht
            rcases List.mem_append.1 ht with ht | ht
            · exact HF.out.th t ht
            · simp at ht
              subst ht
              exact ⟨pri_ok x, rfl, rfl⟩
          · rcases List.mem_append.1 ht with ht | ht
            · exact HNL.out t ht
            · simp at ht
              subst ht
              exact ⟨rfl, rfl, rfl, rfl⟩
        case measure => simp [intOf]; omega
      · have hlt8' : decide ((k : Int) < 8) = false := by simp; omega
        have hlt8'' : decide (k < 8) = false := by simp; omega
        have HS : Hid (Safe (g'.map ThV.th)) := Lib.hid HF.out.safe
        clear HF HNL hgl
        go_wp2
        go_loopw [5, 7] (fun v i wr => ∃ (k : Nat) (n' : Nat) (g' : List ThV) (a' : Option Addr) (c' : Nat), k ≤ n2 ∧ k ≤ 60 ∧ v = .slice a' n' c' ∧ i = .int .i64 k ∧ OwnG 52 w.heap.size wr a' n' c' g' ∧ Safe (g'.map ThV.th) ∧ Below w.heap.size w wr) (fun _ i _ => 60 - (intOf i).toNat)
        case atStart => exact ⟨0, _, _, _, _, Nat.zero_le _, by omega, rfl, rfl, HO.out, HS.out, HB.out⟩
        case round =>
          clear HS HO HB hz hk hk8
          obtain ⟨k, n', g', a', c', hk, hk8, rfl, rfl, ho, hS, hB⟩ := hrel
          have HO := Lib.hid ho; have HS := Lib.hid hS; have HB := Lib.hid hB
          have hsm := valid_small hS.v ho.rd rfl
          have HSM := Lib.hid hsm.2
          have hn8 : n' ≤ 8 := by have h1 := validG_len hS.v; have h2 := ho.rd.length; rw [List.length_map] at h1; omega
          obtain ⟨G, hG⟩ : ∃ G, g'.map ThV.th = G := ⟨_, rfl⟩
          have Hg := Lib.hid hG
          have hgl : G.length = n' := by rw [← hG]; simpa using ho.rd.length
          have HGL := Lib.hid hgl
          rw [hG] at HS
          clear ho hS hB hsm hG hgl
          by_cases hkn : k < n2
          · by_cases hk60 : k < 60
            · have hk60' : (k : Int) < 60 := by omega
              obtain ⟨⟨lets, t, l⟩, b, off, rfl, hb, d0, d1, d2⟩ := (HU.out.ext HB.out).turn k hkn
              simp only [] at d0 d1 d2
              cases lets
              · obtain ⟨A, got, x, hA⟩ : ∃ A b x, askR G t l = (A, b, x) := ⟨_, _, _, rfl⟩
                have HA := Lib.hid hA
                clear hA
                go_wp2_with fail
                go_region_held3 (fun w' => w'.cell? ⟨b, off + k * 3 + 1, none⟩ = some (.int .i64 t) ∧ w'.cell? ⟨b, off + k * 3 + 2, none⟩ = some (.int .i64 l))
                  (first | go_keep)
                  (first | (go_at_call 31; (with_reducible refine (Ask_is (HO.out.rd.ext (Below.refl _ _).drew) Hg.out HSM.out HA.out).mono ?_); rintro e w3 ⟨a3, n3, c3, g3, rfl, ho3, hg3, hb3⟩; have HO3 := Lib.hid ho3; have Hg3 := Lib.hid hg3; have B3 := Lib.hid hb3; have y1 := (hb3.cell (p := ⟨b, off + k * 3 + 1, none⟩) (by simpa using hb)).trans (show _ = some (.int .i64 t) by simpa [go_sem] using d1); have y2 := (hb3.cell (p := ⟨b, off + k * 3 + 2, none⟩) (by simpa using hb)).trans (show _ = some (.int .i64 l) by simpa [go_sem] using d2); clear ho3 hg3 hb3))
                have HB3 : Hid (Below w.heap.size w w3) := Lib.hid (Below.then (HB.out).drew B3.out)
                have hz3 : w.heap.size ≤ wr.drew.heap.size := HB.out.drew.size
                have hl1 : A.length = n3 := by rw [← Hg3.out]; simpa using HO3.out.rd.length
                by_cases hx : x = 0
                · subst hx
                  have HS2 : Hid (Safe A) := Lib.hid (HS.out.ask HA.out)
                  obtain ⟨y, z, hyz⟩ : ∃ y z, nextR A = (y, z) := ⟨_, _, rfl⟩
                  have HN := Lib.hid hyz
                  have HC : Hid (circleR A = ((circleR A).1, 3)) := Lib.hid (circ2 rfl HS2.out.c)
                  have hn3 : A.length = n3 := by rw [← Hg3.out]; simpa using HO3.out.rd.length
                  have hz : (z != 0) = true → n3 = 0 := fun q => by
                    rcases Nat.eq_zero_or_pos n3 with e | e
                    · exact e
                    · have := HS2.out.next (by omega)
                      rw [hyz] at this
                      simp only [] at this
                      rw [this] at q; simp at q
                  have hz0 : n3 = 0 → z = 3 := fun e => by
                    have e2 : A = [] := List.eq_nil_of_length_eq_zero (by rw [hl1]; exact e)
                    rw [e2, show nextR [] = (0, 3) by decide +kernel] at hyz
                    simp at hyz; exact hyz.2.symm
                  clear hyz
                  rcases Nat.eq_zero_or_pos n3 with hn0 | hn0
                  · obtain rfl := hz0 hn0
                    subst hn0
                    clear hz
                    go_wp2_with (first
                      | (go_at_call 18; (with_reducible refine (Circle_is (HO3.out.ext (by repeat (first | (with_reducible exact Below.refl _ _) | (refine Below.then ?_ (Hid.out (by with_reducible assumption)))))).rd Hg3.out HC.out).mono ?_); rintro e w4 ⟨a4, n4, c4, rfl, ho4, hb4⟩; have B4 := Lib.hid hb4; clear ho4 hb4)
                      | (go_at_call 29; (with_reducible refine (Next_is (HO3.out.ext (by repeat (first | (with_reducible exact Below.refl _ _) | (refine Below.then ?_ (Hid.out (by with_reducible assumption)))))).rd Hg3.out HN.out).mono ?_); rintro e w5 ⟨rfl, hb5⟩; have B5 := Lib.hid hb5; clear hb5)
                      | (go_at_call 22; (with_reducible refine (Valid_is (HO3.out.ext (by repeat (first | (with_reducible exact Below.refl _ _) | (refine Below.then ?_ (Hid.out (by with_reducible assumption)))))).rd Hg3.out HS2.out.v).mono ?_); rintro e w6 ⟨rfl, hb6⟩; have B6 := Lib.hid hb6; clear hb6))
                    go_roundw
                    case rel => exact ⟨k + 1, _, _, _, _, by omega, by omega, rfl, by go_num, (HO3.out.ext (by repeat (first | (with_reducible exact Below.refl _ _) | (refine Below.then ?_ (Hid.out (by with_reducible assumption)))))).mono hz3, by rw [Hg3.out]; exact HS2.out, Below.then HB3.out (show Below w3.heap.size w3 w6 from Below.then (Below.then B4.out B5.out) B6.out)⟩
                    case measure => simp [intOf]; omega
                  · have hz' : (z != 0) = false := by
                      cases q : (z != 0) with
                      | false => rfl
                      | true => have := hz q; omega
                    clear hz
                    go_wp2_with (first
                      | (go_at_call 18; (with_reducible refine (Circle_is (HO3.out.ext (by repeat (first | (with_reducible exact Below.refl _ _) | (refine Below.then ?_ (Hid.out (by with_reducible assumption)))))).rd Hg3.out HC.out).mono ?_); rintro e w4 ⟨a4, n4, c4, rfl, ho4, hb4⟩; have B4 := Lib.hid hb4; clear ho4 hb4)
                      | (go_at_call 29; (with_reducible refine (Next_is (HO3.out.ext (by repeat (first | (with_reducible exact Below.refl _ _) | (refine Below.then ?_ (Hid.out (by with_reducible assumption)))))).rd Hg3.out HN.out).mono ?_); rintro e w5 ⟨rfl, hb5⟩; have B5 := Lib.hid hb5; clear hb5)
                      | (go_at_call 22; (with_reducible refine (Valid_is (HO3.out.ext (by repeat (first | (with_reducible exact Below.refl _ _) | (refine Below.then ?_ (Hid.out (by with_reducible assumption)))))).rd Hg3.out HS2.out.v).mono ?_); rintro e w6 ⟨rfl, hb6⟩; have B6 := Lib.hid hb6; clear hb6))
                    go_roundw
                    case rel => exact ⟨k + 1, _, _, _, _, by omega, by omega, rfl, by go_num, (HO3.out.ext (by repeat (first | (with_reducible exact Below.refl _ _) | (refine Below.then ?_ (Hid.out (by with_reducible assumption)))))).mono hz3, by rw [Hg3.out]; exact HS2.out, Below.then HB3.out (show Below w3.heap.size w3 w6 from Below.then (Below.then B4.out B5.out) B6.out)⟩
                    case measure => simp [intOf]; omega
                · have hx' : (x == 0) = false := by simpa using hx
                  have HS2 : Hid (Safe G) := Lib.hid HS.out
                  obtain ⟨y, z, hyz⟩ : ∃ y z, nextR G = (y, z) := ⟨_, _, rfl⟩
                  have HN := Lib.hid hyz
                  have HC : Hid (circleR G = ((circleR G).1, 3)) := Lib.hid (circ2 rfl HS2.out.c)
                  have hz : (z != 0) = true → n' = 0 := fun q => by
                    rcases Nat.eq_zero_or_pos n' with e | e
                    · exact e
                    · have := HS2.out.next (by rw [HGL.out]; exact e)
                      rw [hyz] at this
                      simp only [] at this
                      rw [this] at q; simp at q
                  have hz0 : n' = 0 → z = 3 := fun e => by
                    have e2 : G = [] := List.eq_nil_of_length_eq_zero (by rw [HGL.out]; exact e)
                    rw [e2, show nextR [] = (0, 3) by decide +kernel] at hyz
                    simp at hyz; exact hyz.2.symm
                  clear hyz
                  rcases Nat.eq_zero_or_pos n' with hn0 | hn0
                  · obtain rfl := hz0 hn0
                    subst hn0
                    clear hz
                    go_wp2_with (first
                      | (go_at_call 18; (with_reducible refine (Circle_is (HO.out.ext (Below.then (Below.refl _ _).drew B3.out)).rd Hg.out HC.out).mono ?_); rintro e w4 ⟨a4, n4, c4, rfl, ho4, hb4⟩; have B4 := Lib.hid hb4; clear ho4 hb4)
                      | (go_at_call 29; (with_reducible refine (Next_is (HO.out.ext (Below.then (Below.then (Below.refl _ _).drew B3.out) B4.out)).rd Hg.out HN.out).mono ?_); rintro e w5 ⟨rfl, hb5⟩; have B5 := Lib.hid hb5; clear hb5)
                      | (go_at_call 22; (with_reducible refine (Valid_is (HO.out.ext (Below.then (Below.then (Below.then (Below.refl _ _).drew B3.out) B4.out) B5.out)).rd Hg.out HS2.out.v).mono ?_); rintro e w6 ⟨rfl, hb6⟩; have B6 := Lib.hid hb6; clear hb6))
                    go_roundw
                    case rel => exact ⟨k + 1, _, _, _, _, by omega, by omega, rfl, by go_num, HO.out.ext (show Below wr.heap.size wr w6 from Below.then (Below.then (Below.then (Below.refl _ _).drew B3.out) B4.out) (Below.then B5.out B6.out)), by rw [Hg.out]; exact HS2.out, Below.then HB3.out (show Below w3.heap.size w3 w6 from Below.then (Below.then B4.out B5.out) B6.out)⟩
                    case measure => simp [intOf]; omega
                  · have hz' : (z != 0) = false := by
                      cases q : (z != 0) with
                      | false => rfl
                      | true => have := hz q; omega
                    clear hz
                    go_wp2_with (first
                      | (go_at_call 18; (with_reducible refine (Circle_is (HO.out.ext (Below.then (Below.refl _ _).drew B3.out)).rd Hg.out HC.out).mono ?_); rintro e w4 ⟨a4, n4, c4, rfl, ho4, hb4⟩; have B4 := Lib.hid hb4; clear ho4 hb4)
                      | (go_at_call 29; (with_reducible refine (Next_is (HO.out.ext (Below.then (Below.then (Below.refl _ _).drew B3.out) B4.out)).rd Hg.out HN.out).mono ?_); rintro e w5 ⟨rfl, hb5⟩; have B5 := Lib.hid hb5; clear hb5)
                      | (go_at_call 22; (with_reducible refine (Valid_is (HO.out.ext (Below.then (Below.then (Below.then (Below.refl _ _).drew B3.out) B4.out) B5.out)).rd Hg.out HS2.out.v).mono ?_); rintro e w6 ⟨rfl, hb6⟩; have B6 := Lib.hid hb6; clear hb6))
                    go_roundw
                    case rel => exact ⟨k + 1, _, _, _, _, by omega, by omega, rfl, by go_num, HO.out.ext (show Below wr.heap.size wr w6 from Below.then (Below.then (Below.then (Below.refl _ _).drew B3.out) B4.out) (Below.then B5.out B6.out)), by rw [Hg.out]; exact HS2.out, Below.then HB3.out (show Below w3.heap.size w3 w6 from Below.then (Below.then B4.out B5.out) B6.out)⟩
                    case measure => simp [intOf]; omega
              · obtain ⟨A, got, x, hA⟩ : ∃ A b x, letR G t l = (A, b, x) := ⟨_, _, _, rfl⟩
                have HA := Lib.hid hA
                clear hA
                go_wp2_with fail
                go_region_held3 (fun w' => w'.cell? ⟨b, off + k * 3 + 1, none⟩ = some (.int .i64 t) ∧ w'.cell? ⟨b, off + k * 3 + 2, none⟩ = some (.int .i64 l))
                  (first | go_keep)
                  (first | (go_at_call 33; (with_reducible refine (Let_is (HO.out.rd.ext (Below.refl _ _).drew) Hg.out HSM.out HA.out).mono ?_); rintro e w3 ⟨a3, n3, c3, g3, rfl, ho3, hg3, hb3⟩; have HO3 := Lib.hid ho3; have Hg3 := Lib.hid hg3; have B3 := Lib.hid hb3; have y1 := (hb3.cell (p := ⟨b, off + k * 3 + 1, none⟩) (by simpa using hb)).trans (show _ = some (.int .i64 t) by simpa [go_sem] using d1); have y2 := (hb3.cell (p := ⟨b, off + k * 3 + 2, none⟩) (by simpa using hb)).trans (show _ = some (.int .i64 l) by simpa [go_sem] using d2); clear ho3 hg3 hb3))
                have HB3 : Hid (Below w.heap.size w w3) := Lib.hid (Below.then (HB.out).drew B3.out)
                have hz3 : w.heap.size ≤ wr.drew.heap.size := HB.out.drew.size
                have hl1 : A.length = n3 := by rw [← Hg3.out]; simpa using HO3.out.rd.length
                by_cases hx : x = 0
                · subst hx
                  have HS2 : Hid (Safe A) := Lib.hid (HS.out.letGo HA.out)
                  obtain ⟨y, z, hyz⟩ : ∃ y z, nextR A = (y, z) := ⟨_, _, rfl⟩
                  have HN := Lib.hid hyz
                  have HC : Hid (circleR A = ((circleR A).1, 3)) := Lib.hid (circ2 rfl HS2.out.c)
                  have hn3 : A.length = n3 := by rw [← Hg3.out]; simpa using HO3.out.rd.length
                  have hz : (z != 0) = true → n3 = 0 := fun q => by
                    rcases Nat.eq_zero_or_pos n3 with e | e
                    · exact e
                    · have := HS2.out.next (by omega)
                      rw [hyz] at this
                      simp only [] at this
                      rw [this] at q; simp at q
                  have hz0 : n3 = 0 → z = 3 := fun e => by
                    have e2 : A = [] := List.eq_nil_of_length_eq_zero (by rw [hl1]; exact e)
                    rw [e2, show nextR [] = (0, 3) by decide +kernel] at hyz
                    simp at hyz; exact hyz.2.symm
                  clear hyz
                  rcases Nat.eq_zero_or_pos n3 with hn0 | hn0
                  · obtain rfl := hz0 hn0
                    subst hn0
                    clear hz
                    go_wp2_with (first
                      | (go_at_call 18; (with_reducible refine (Circle_is (HO3.out.ext (by repeat (first | (with_reducible exact Below.refl _ _) | (refine Below.then ?_ (Hid.out (by with_reducible assumption)))))).rd Hg3.out HC.out).mono ?_); rintro e w4 ⟨a4, n4, c4, rfl, ho4, hb4⟩; have B4 := Lib.hid hb4; clear ho4 hb4)
                      | (go_at_call 29; (with_reducible refine (Next_is (HO3.out.ext (by repeat (first | (with_reducible exact Below.refl _ _) | (refine Below.then ?_ (Hid.out (by with_reducible assumption)))))).rd Hg3.out HN.out).mono ?_); rintro e w5 ⟨rfl, hb5⟩; have B5 := Lib.hid hb5; clear hb5)
                      | (go_at_call 22; (with_reducible refine (Valid_is (HO3.out.ext (by repeat (first | (with_reducible exact Below.refl _ _) | (refine Below.then ?_ (Hid.out (by with_reducible assumption)))))).rd Hg3.out HS2.out.v).mono ?_); rintro e w6 ⟨rfl, hb6⟩; have B6 := Lib.hid hb6; clear hb6))
                    go_roundw
                    case rel => exact ⟨k + 1, _, _, _, _, by omega, by omega, rfl, by go_num, (HO3.out.ext (by repeat (first | (with_reducible exact Below.refl _ _) | (refine Below.then ?_ (Hid.out (by with_reducible assumption)))))).mono hz3, by rw [Hg3.out]; exact HS2.out, Below.then HB3.out (show Below w3.heap.size w3 w6 from Below.then (Below.then B4.out B5.out) B6.out)⟩
                    case measure => simp [intOf]; omega
                  · have hz' : (z != 0) = false := by
                      cases q : (z != 0) with
                      | false => rfl
                      | true => have := hz q; omega
                    clear hz
                    go_wp2_with (first
                      | (go_at_call 18; (with_reducible refine (Circle_is (HO3.out.ext (by repeat (first | (with_reducible exact Below.refl _ _) | (refine Below.then ?_ (Hid.out (by with_reducible assumption)))))).rd Hg3.out HC.out).mono ?_); rintro e w4 ⟨a4, n4, c4, rfl, ho4, hb4⟩; have B4 := Lib.hid hb4; clear ho4 hb4)
                      | (go_at_call 29; (with_reducible refine (Next_is (HO3.out.ext (by repeat (first | (with_reducible exact Below.refl _ _) | (refine Below.then ?_ (Hid.out (by with_reducible assumption)))))).rd Hg3.out HN.out).mono ?_); rintro e w5 ⟨rfl, hb5⟩; have B5 := Lib.hid hb5; clear hb5)
                      | (go_at_call 22; (with_reducible refine (Valid_is (HO3.out.ext (by repeat (first | (with_reducible exact Below.refl _ _) | (refine Below.then ?_ (Hid.out (by with_reducible assumption)))))).rd Hg3.out HS2.out.v).mono ?_); rintro e w6 ⟨rfl, hb6⟩; have B6 := Lib.hid hb6; clear hb6))
                    go_roundw
                    case rel => exact ⟨k + 1, _, _, _, _, by omega, by omega, rfl, by go_num, (HO3.out.ext (by repeat (first | (with_reducible exact Below.refl _ _) | (refine Below.then ?_ (Hid.out (by with_reducible assumption)))))).mono hz3, by rw [Hg3.out]; exact HS2.out, Below.then HB3.out (show Below w3.heap.size w3 w6 from Below.then (Below.then B4.out B5.out) B6.out)⟩
                    case measure => simp [intOf]; omega
                · have hx' : (x == 0) = false := by simpa using hx
                  have HS2 : Hid (Safe G) := Lib.hid HS.out
                  obtain ⟨y, z, hyz⟩ : ∃ y z, nextR G = (y, z) := ⟨_, _, rfl⟩
                  have HN := Lib.hid hyz
                  have HC : Hid (circleR G = ((circleR G).1, 3)) := Lib.hid (circ2 rfl HS2.out.c)
                  have hz : (z != 0) = true → n' = 0 := fun q => by
                    rcases Nat.eq_zero_or_pos n' with e | e
                    · exact e
                    · have := HS2.out.next (by rw [HGL.out]; exact e)
                      rw [hyz] at this
                      simp only [] at this
                      rw [this] at q; simp at q
                  have hz0 : n' = 0 → z = 3 := fun e => by
                    have e2 : G = [] := List.eq_nil_of_length_eq_zero (by rw [HGL.out]; exact e)
                    rw [e2, show nextR [] = (0, 3) by decide +kernel] at hyz
                    simp at hyz; exact hyz.2.symm
                  clear hyz
                  rcases Nat.eq_zero_or_pos n' with hn0 | hn0
                  · obtain rfl := hz0 hn0
                    subst hn0
                    clear hz
                    go_wp2_with (first
                      | (go_at_call 18; (with_reducible refine (Circle_is (HO.out.ext (Below.then (Below.refl _ _).drew B3.out)).rd Hg.out HC.out).mono ?_); rintro e w4 ⟨a4, n4, c4, rfl, ho4, hb4⟩; have B4 := Lib.hid hb4; clear ho4 hb4)
                      | (go_at_call 29; (with_reducible refine (Next_is (HO.out.ext (Below.then (Below.then (Below.refl _ _).drew B3.out) B4.out)).rd Hg.out HN.out).mono ?_); rintro e w5 ⟨rfl, hb5⟩; have B5 := Lib.hid hb5; clear hb5)
                      | (go_at_call 22; (with_reducible refine (Valid_is (HO.out.ext (Below.then (Below.then (Below.then (Below.refl _ _).drew B3.out) B4.out) B5.out)).rd Hg.out HS2.out.v).mono ?_); rintro e w6 ⟨rfl, hb6⟩; have B6 := Lib.hid hb6; clear hb6))
                    go_roundw
                    case rel => exact ⟨k + 1, _, _, _, _, by omega, by omega, rfl, by go_num, HO.out.ext (show Below wr.heap.size wr w6 from Below.then (Below.then (Below.then (Below.refl _ _).drew B3.out) B4.out) (Below.then B5.out B6.out)), by rw [Hg.out]; exact HS2.out, Below.then HB3.out (show Below w3.heap.size w3 w6 from Below.then (Below.then B4.out B5.out) B6.out)⟩
                    case measure => simp [intOf]; omega
                  · have hz' : (z != 0) = false := by
                      cases q : (z != 0) with
                      | false => rfl
                      | true => have := hz q; omega
                    clear hz
                    go_wp2_with (first
                      | (go_at_call 18; (with_reducible refine (Circle_is (HO.out.ext (Below.then (Below.refl _ _).drew B3.out)).rd Hg.out HC.out).mono ?_); rintro e w4 ⟨a4, n4, c4, rfl, ho4, hb4⟩; have B4 := Lib.hid hb4; clear ho4 hb4)
                      | (go_at_call 29; (with_reducible refine (Next_is (HO.out.ext (Below.then (Below.then (Below.refl _ _).drew B3.out) B4.out)).rd Hg.out HN.out).mono ?_); rintro e w5 ⟨rfl, hb5⟩; have B5 := Lib.hid hb5; clear hb5)
                      | (go_at_call 22; (with_reducible refine (Valid_is (HO.out.ext (Below.then (Below.then (Below.then (Below.refl _ _).drew B3.out) B4.out) B5.out)).rd Hg.out HS2.out.v).mono ?_); rintro e w6 ⟨rfl, hb6⟩; have B6 := Lib.hid hb6; clear hb6))
                    go_roundw
                    case rel => exact ⟨k + 1, _, _, _, _, by omega, by omega, rfl, by go_num, HO.out.ext (show Below wr.heap.size wr w6 from Below.then (Below.then (Below.then (Below.refl _ _).drew B3.out) B4.out) (Below.then B5.out B6.out)), by rw [Hg.out]; exact HS2.out, Below.then HB3.out (show Below w3.heap.size w3 w6 from Below.then (Below.then B4.out B5.out) B6.out)⟩
                    case measure => simp [intOf]; omega
            · have hk60' : decide ((k : Int) < 60) = false := by simp; omega
              have hk60'' : decide (k < 60) = false := by simp; omega
              (go_wp2_with (go_at_call 14; (with_reducible refine (sane_any _).mono ?_); rintro e w9 ⟨rfl, hb9⟩); go_ret; exact ⟨rfl, Below.then HB.out hb9⟩)
          · have hkn' : decide ((k : Int) < (n2 : Int)) = false := by simp; omega
            have hkn'' : decide (k < n2) = false := by simp; omega
            (go_wp2_with (go_at_call 14; (with_reducible refine (sane_any _).mono ?_); rintro e w9 ⟨rfl, hb9⟩); go_ret; exact ⟨rfl, Below.then HB.out hb9⟩)
    · have hlt' : decide ((k : Int) < (n : Int)) = false := by simp; omega
      have hlt'' : decide (k < n) = false := by simp; omega
      first
      | skip
        have HS : Hid (Safe (g'.map ThV.th)) := Lib.hid HF.out.safe
        clear HF HNL hgl
        go_wp2
        go_loopw [5, 7] (fun v i wr => ∃ (k : Nat) (n' : Nat) (g' : List ThV) (a' : Option Addr) (c' : Nat), k ≤ n2 ∧ k ≤ 60 ∧ v = .slice a' n' c' ∧ i = .int .i64 k ∧ OwnG 52 w.heap.size wr a' n' c' g' ∧ Safe (g'.map ThV.th) ∧ Below w.heap.size w wr) (fun _ i _ => 60 - (intOf i).toNat)
        case atStart => exact ⟨0, _, _, _, _, Nat.zero_le _, by omega, rfl, rfl, HO.out, HS.out, HB.out⟩
        case round =>
          clear HS HO HB hz hk hk8
          obtain ⟨k, n', g', a', c', hk, hk8, rfl, rfl, ho, hS, hB⟩ := hrel
          have HO := Lib.hid ho; have HS := Lib.hid hS; have HB := Lib.hid hB
          have hsm := valid_small hS.v ho.rd rfl
          have HSM := Lib.hid hsm.2
          have hn8 : n' ≤ 8 := by have h1 := validG_len hS.v; have h2 := ho.rd.length; rw [List.length_map] at h1; omega
          obtain ⟨G, hG⟩ : ∃ G, g'.map ThV.th = G := ⟨_, rfl⟩
          have Hg := Lib.hid hG
          have hgl : G.length = n' := by rw [← hG]; simpa using ho.rd.length
          have HGL := Lib.hid hgl
          rw [hG] at HS
          clear ho hS hB hsm hG hgl
          by_cases hkn : k < n2
          · by_cases hk60 : k < 60
            · have hk60' : (k : Int) < 60 := by omega
              obtain ⟨⟨lets, t, l⟩, b, off, rfl, hb, d0, d1, d2⟩ := (HU.out.ext HB.out).turn k hkn
              simp only [] at d0 d1 d2
              cases lets
              · obtain ⟨A, got, x, hA⟩ : ∃ A b x, askR G t l = (A, b, x) := ⟨_, _, _, rfl⟩
                have HA := Lib.hid hA
                clear hA
                go_wp2_with fail
                go_region_held3 (fun w' => w'.cell? ⟨b, off + k * 3 + 1, none⟩ = some (.int .i64 t) ∧ w'.cell? ⟨b, off + k * 3 + 2, none⟩ = some (.int .i64 l))
                  (first | go_keep)
                  (first | (go_at_call 31; (with_reducible refine (Ask_is (HO.out.rd.ext (Below.refl _ _).drew) Hg.out HSM.out HA.out).mono ?_); rintro e w3 ⟨a3, n3, c3, g3, rfl, ho3, hg3, hb3⟩; have HO3 := Lib.hid ho3; have Hg3 := Lib.hid hg3; have B3 := Lib.hid hb3; have y1 := (hb3.cell (p := ⟨b, off + k * 3 + 1, none⟩) (by simpa using hb)).trans (show _ = some (.int .i64 t) by simpa [go_sem] using d1); have y2 := (hb3.cell (p := ⟨b, off + k * 3 + 2, none⟩) (by simpa using hb)).trans (show _ = some (.int .i64 l) by simpa [go_sem] using d2); clear ho3 hg3 hb3))
                have HB3 : Hid (Below w.heap.size w w3) := Lib.hid (Below.then (HB.out).drew B3.out)
                have hz3 : w.heap.size ≤ wr.drew.heap.size := HB.out.drew.size
                have hl1 : A.length = n3 := by rw [← Hg3.out]; simpa using HO3.out.rd.length
                by_cases hx : x = 0
                · subst hx
                  have HS2 : Hid (Safe A) := Lib.hid (HS.out.ask HA.out)
                  obtain ⟨y, z, hyz⟩ : ∃ y z, nextR A = (y, z) := ⟨_, _, rfl⟩
                  have HN := Lib.hid hyz
                  have HC : Hid (circleR A = ((circleR A).1, 3)) := Lib.hid (circ2 rfl HS2.out.c)
                  have hn3 : A.length = n3 := by rw [← Hg3.out]; simpa using HO3.out.rd.length
                  have hz : (z != 0) = true → n3 = 0 := fun q => by
                    rcases Nat.eq_zero_or_pos n3 with e | e
                    · exact e
                    · have := HS2.out.next (by omega)
                      rw [hyz] at this
                      simp only [] at this
                      rw [this] at q; simp at q
                  have hz0 : n3 = 0 → z = 3 := fun e => by
                    have e2 : A = [] := List.eq_nil_of_length_eq_zero (by rw [hl1]; exact e)
                    rw [e2, show nextR [] = (0, 3) by decide +kernel] at hyz
                    simp at hyz; exact hyz.2.symm
                  clear hyz
                  rcases Nat.eq_zero_or_pos n3 with hn0 | hn0
                  · obtain rfl := hz0 hn0
                    subst hn0
                    clear hz
                    go_wp2_with (first
                      | (go_at_call 18; (with_reducible refine (Circle_is (HO3.out.ext (by repeat (first | (with_reducible exact Below.refl _ _) | (refine Below.then ?_ (Hid.out (by with_reducible assumption)))))).rd Hg3.out HC.out).mono ?_); rintro e w4 ⟨a4, n4, c4, rfl, ho4, hb4⟩; have B4 := Lib.hid hb4; clear ho4 hb4)
                      | (go_at_call 29; (with_reducible refine (Next_is (HO3.out.ext (by repeat (first | (with_reducible exact Below.refl _ _) | (refine Below.then ?_ (Hid.out (by with_reducible assumption)))))).rd Hg3.out HN.out).mono ?_); rintro e w5 ⟨rfl, hb5⟩; have B5 := Lib.hid hb5; clear hb5)
                      | (go_at_call 22; (with_reducible refine (Valid_is (HO3.out.ext (by repeat (first | (with_reducible exact Below.refl _ _) | (refine Below.then ?_ (Hid.out (by with_reducible assumption)))))).rd Hg3.out HS2.out.v).mono ?_); rintro e w6 ⟨rfl, hb6⟩; have B6 := Lib.hid hb6; clear hb6))
                    go_roundw
                    case rel => exact ⟨k + 1, _, _, _, _, by omega, by omega, rfl, by go_num, (HO3.out.ext (by repeat (first | (with_reducible exact Below.refl _ _) | (refine Below.then ?_ (Hid.out (by with_reducible assumption)))))).mono hz3, by rw [Hg3.out]; exact HS2.out, Below.then HB3.out (show Below w3.heap.size w3 w6 from Below.then (Below.then B4.out B5.out) B6.out)⟩
                    case measure => simp [intOf]; omega
                  · have hz' : (z != 0) = false := by
                      cases q : (z != 0) with
                      | false => rfl
                      | true => have := hz q; omega
                    clear hz
                    go_wp2_with (first
                      | (go_at_call 18; (with_reducible refine (Circle_is (HO3.out.ext (by repeat (first | (with_reducible exact Below.refl _ _) | (refine Below.then ?_ (Hid.out (by with_reducible assumption)))))).rd Hg3.out HC.out).mono ?_); rintro e w4 ⟨a4, n4, c4, rfl, ho4, hb4⟩; have B4 := Lib.hid hb4; clear ho4 hb4)
                      | (go_at_call 29; (with_reducible refine (Next_is (HO3.out.ext (by repeat (first | (with_reducible exact Below.refl _ _) | (refine Below.then ?_ (Hid.out (by with_reducible assumption)))))).rd Hg3.out HN.out).mono ?_); rintro e w5 ⟨rfl, hb5⟩; have B5 := Lib.hid hb5; clear hb5)
                      | (go_at_call 22; (with_reducible refine (Valid_is (HO3.out.ext (by repeat (first | (with_reducible exact Below.refl _ _) | (refine Below.then ?_ (Hid.out (by with_reducible assumption)))))).rd Hg3.out HS2.out.v).mono ?_); rintro e w6 ⟨rfl, hb6⟩; have B6 := Lib.hid hb6; clear hb6))
                    go_roundw
                    case rel => exact ⟨k + 1, _, _, _, _, by omega, by omega, rfl, by go_num, (HO3.out.ext (by repeat (first | (with_reducible exact Below.refl _ _) | (refine Below.then ?_ (Hid.out (by with_reducible assumption)))))).mono hz3, by rw [Hg3.out]; exact HS2.out, Below.then HB3.out (show Below w3.heap.size w3 w6 from Below.then (Below.then B4.out B5.out) B6.out)⟩
                    case measure => simp [intOf]; omega
                · have hx' : (x == 0) = false := by simpa using hx
                  have HS2 : Hid (Safe G) := Lib.hid HS.out
                  obtain ⟨y, z, hyz⟩ : ∃ y z, nextR G = (y, z) := ⟨_, _, rfl⟩
                  have HN := Lib.hid hyz
                  have HC : Hid (circleR G = ((circleR G).1, 3)) := Lib.hid (circ2 rfl HS2.out.c)
                  have hz : (z != 0) = true → n' = 0 := fun q => by
                    rcases Nat.eq_zero_or_pos n' with e | e
                    · exact e
                    · have := HS2.out.next (by rw [HGL.out]; exact e)
                      rw [hyz] at this
                      simp only [] at this
                      rw [this] at q; simp at q
                  have hz0 : n' = 0 → z = 3 := fun e => by
                    have e2 : G = [] := List.eq_nil_of_length_eq_zero (by rw [HGL.out]; exact e)
                    rw [e2, show nextR [] = (0, 3) by decide +kernel] at hyz
                    simp at hyz; exact hyz.2.symm
                  clear hyz
                  rcases Nat.eq_zero_or_pos n' with hn0 | hn0
                  · obtain rfl := hz0 hn0
                    subst hn0
                    clear hz
                    go_wp2_with (first
                      | (go_at_call 18; (with_reducible refine (Circle_is (HO.out.ext (Below.then (Below.refl _ _).drew B3.out)).rd Hg.out HC.out).mono ?_); rintro e w4 ⟨a4, n4, c4, rfl, ho4, hb4⟩; have B4 := Lib.hid hb4; clear ho4 hb4)
                      | (go_at_call 29; (with_reducible refine (Next_is (HO.out.ext (Below.then (Below.then (Below.refl _ _).drew B3.out) B4.out)).rd Hg.out HN.out).mono ?_); rintro e w5 ⟨rfl, hb5⟩; have B5 := Lib.hid hb5; clear hb5)
                      | (go_at_call 22; (with_reducible refine (Valid_is (HO.out.ext (Below.then (Below.then (Below.then (Below.refl _ _).drew B3.out) B4.out) B5.out)).rd Hg.out HS2.out.v).mono ?_); rintro e w6 ⟨rfl, hb6⟩; have B6 := Lib.hid hb6; clear hb6))
                    go_roundw
                    case rel => exact ⟨k + 1, _, _, _, _, by omega, by omega, rfl, by go_num, HO.out.ext (show Below wr.heap.size wr w6 from Below.then (Below.then (Below.then (Below.refl _ _).drew B3.out) B4.out) (Below.then B5.out B6.out)), by rw [Hg.out]; exact HS2.out, Below.then HB3.out (show Below w3.heap.size w3 w6 from Below.then (Below.then B4.out B5.out) B6.out)⟩
                    case measure => simp [intOf]; omega
                  · have hz' : (z != 0) = false := by
                      cases q : (z != 0) with
                      | false => rfl
                      | true => have := hz q; omega
                    clear hz
                    go_wp2_with (first
                      | (go_at_call 18; (with_reducible refine (Circle_is (HO.out.ext (Below.then (Below.refl _ _).drew B3.out)).rd Hg.out HC.out).mono ?_); rintro e w4 ⟨a4, n4, c4, rfl, ho4, hb4⟩; have B4 := Lib.hid hb4; clear ho4 hb4)
                      | (go_at_call 29; (with_reducible refine (Next_is (HO.out.ext (Below.then (Below.then (Below.refl _ _).drew B3.out) B4.out)).rd Hg.out HN.out).mono ?_); rintro e w5 ⟨rfl, hb5⟩; have B5 := Lib.hid hb5; clear hb5)
                      | (go_at_call 22; (with_reducible refine (Valid_is (HO.out.ext (Below.then (Below.then (Below.then (Below.refl _ _).drew B3.out) B4.out) B5.out)).rd Hg.out HS2.out.v).mono ?_); rintro e w6 ⟨rfl, hb6⟩; have B6 := Lib.hid hb6; clear hb6))
                    go_roundw
                    case rel => exact ⟨k + 1, _, _, _, _, by omega, by omega, rfl, by go_num, HO.out.ext (show Below wr.heap.size wr w6 from Below.then (Below.then (Below.then (Below.refl _ _).drew B3.out) B4.out) (Below.then B5.out B6.out)), by rw [Hg.out]; exact HS2.out, Below.then HB3.out (show Below w3.heap.size w3 w6 from Below.then (Below.then B4.out B5.out) B6.out)⟩
                    case measure => simp [intOf]; omega
              · obtain ⟨A, got, x, hA⟩ : ∃ A b x, letR G t l = (A, b, x) := ⟨_, _, _, rfl⟩
                have HA := Lib.hid hA
                clear hA
                go_wp2_with fail
                go_region_held3 (fun w' => w'.cell? ⟨b, off + k * 3 + 1, none⟩ = some (.int .i64 t) ∧ w'.cell? ⟨b, off + k * 3 + 2, none⟩ = some (.int .i64 l))
                  (first | go_keep)
                  (first | (go_at_call 33; (with_reducible refine (Let_is (HO.out.rd.ext (Below.refl _ _).drew) Hg.out HSM.out HA.out).mono ?_); rintro e w3 ⟨a3, n3, c3, g3, rfl, ho3, hg3, hb3⟩; have HO3 := Lib.hid ho3; have Hg3 := Lib.hid hg3; have B3 := Lib.hid hb3; have y1 := (hb3.cell (p := ⟨b, off + k * 3 + 1, none⟩) (by simpa using hb)).trans (show _ = some (.int .i64 t) by simpa [go_sem] using d1); have y2 := (hb3.cell (p := ⟨b, off + k * 3 + 2, none⟩) (by simpa using hb)).trans (show _ = some (.int .i64 l) by simpa [go_sem] using d2); clear ho3 hg3 hb3))
                have HB3 : Hid (Below w.heap.size w w3) := Lib.hid (Below.then (HB.out).drew B3.out)
                have hz3 : w.heap.size ≤ wr.drew.heap.size := HB.out.drew.size
                have hl1 : A.length = n3 := by rw [← Hg3.out]; simpa using HO3.out.rd.length
                by_cases hx : x = 0
                · subst hx
                  have HS2 : Hid (Safe A) := Lib.hid (HS.out.letGo HA.out)
                  obtain ⟨y, z, hyz⟩ : ∃ y z, nextR A = (y, z) := ⟨_, _, rfl⟩
                  have HN := Lib.hid hyz
                  have HC : Hid (circleR A = ((circleR A).1, 3)) := Lib.hid (circ2 rfl HS2.out.c)
                  have hn3 : A.length = n3 := by rw [← Hg3.out]; simpa using HO3.out.rd.length
                  have hz : (z != 0) = true → n3 = 0 := fun q => by
                    rcases Nat.eq_zero_or_pos n3 with e | e
                    · exact e
                    · have := HS2.out.next (by omega)
                      rw [hyz] at this
                      simp only [] at this
                      rw [this] at q; simp at q
                  have hz0 : n3 = 0 → z = 3 := fun e => by
                    have e2 : A = [] := List.eq_nil_of_length_eq_zero (by rw [hl1]; exact e)
                    rw [e2, show nextR [] = (0, 3) by decide +kernel] at hyz
                    simp at hyz; exact hyz.2.symm
                  clear hyz
                  rcases Nat.eq_zero_or_pos n3 with hn0 | hn0
                  · obtain rfl := hz0 hn0
                    subst hn0
                    clear hz
                    go_wp2_with (first
                      | (go_at_call 18; (with_reducible refine (Circle_is (HO3.out.ext (by repeat (first | (with_reducible exact Below.refl _ _) | (refine Below.then ?_ (Hid.out (by with_reducible assumption)))))).rd Hg3.out HC.out).mono ?_); rintro e w4 ⟨a4, n4, c4, rfl, ho4, hb4⟩; have B4 := Lib.hid hb4; clear ho4 hb4)
                      | (go_at_call 29; (with_reducible refine (Next_is (HO3.out.ext (by repeat (first | (with_reducible exact Below.refl _ _) | (refine Below.then ?_ (Hid.out (by with_reducible assumption)))))).rd Hg3.out HN.out).mono ?_); rintro e w5 ⟨rfl, hb5⟩; have B5 := Lib.hid hb5; clear hb5)
                      | (go_at_call 22; (with_reducible refine (Valid_is (HO3.out.ext (by repeat (first | (with_reducible exact Below.refl _ _) | (refine Below.then ?_ (Hid.out (by with_reducible assumption)))))).rd Hg3.out HS2.out.v).mono ?_); rintro e w6 ⟨rfl, hb6⟩; have B6 := Lib.hid hb6; clear hb6))
                    go_roundw
                    case rel => exact ⟨k + 1, _, _, _, _, by omega, by omega, rfl, by go_num, (HO3.out.ext (by repeat (first | (with_reducible exact Below.refl _ _) | (refine Below.then ?_ (Hid.out (by with_reducible assumption)))))).mono hz3, by rw [Hg3.out]; exact HS2.out, Below.then HB3.out (show Below w3.heap.size w3 w6 from Below.then (Below.then B4.out B5.out) B6.out)⟩
                    case measure => simp [intOf]; omega
                  · have hz' : (z != 0) = false := by
                      cases q : (z != 0) with
                      | false => rfl
                      | true => have := hz q; omega
                    clear hz
                    go_wp2_with (first
                      | (go_at_call 18; (with_reducible refine (Circle_is (HO3.out.ext (by repeat (first | (with_reducible exact Below.refl _ _) | (refine Below.then ?_ (Hid.out (by with_reducible assumption)))))).rd Hg3.out HC.out).mono ?_); rintro e w4 ⟨a4, n4, c4, rfl, ho4, hb4⟩; have B4 := Lib.hid hb4; clear ho4 hb4)
                      | (go_at_call 29; (with_reducible refine (Next_is (HO3.out.ext (by repeat (first | (with_reducible exact Below.refl _ _) | (refine Below.then ?_ (Hid.out (by with_reducible assumption)))))).rd Hg3.out HN.out).mono ?_); rintro e w5 ⟨rfl, hb5⟩; have B5 := Lib.hid hb5; clear hb5)
                      | (go_at_call 22; (with_reducible refine (Valid_is (HO3.out.ext (by repeat (first | (with_reducible exact Below.refl _ _) | (refine Below.then ?_ (Hid.out (by with_reducible assumption)))))).rd Hg3.out HS2.out.v).mono ?_); rintro e w6 ⟨rfl, hb6⟩; have B6 := Lib.hid hb6; clear hb6))
                    go_roundw
                    case rel => exact ⟨k + 1, _, _, _, _, by omega, by omega, rfl, by go_num, (HO3.out.ext (by repeat (first | (with_reducible exact Below.refl _ _) | (refine Below.then ?_ (Hid.out (by with_reducible assumption)))))).mono hz3, by rw [Hg3.out]; exact HS2.out, Below.then HB3.out (show Below w3.heap.size w3 w6 from Below.then (Below.then B4.out B5.out) B6.out)⟩
                    case measure => simp [intOf]; omega
                · have hx' : (x == 0) = false := by simpa using hx
                  have HS2 : Hid (Safe G) := Lib.hid HS.out
                  obtain ⟨y, z, hyz⟩ : ∃ y z, nextR G = (y, z) := ⟨_, _, rfl⟩
                  have HN := Lib.hid hyz
                  have HC : Hid (circleR G = ((circleR G).1, 3)) := Lib.hid (circ2 rfl HS2.out.c)
                  have hz : (z != 0) = true → n' = 0 := fun q => by
                    rcases Nat.eq_zero_or_pos n' with e | e
                    · exact e
                    · have := HS2.out.next (by rw [HGL.out]; exact e)
                      rw [hyz] at this
                      simp only [] at this
                      rw [this] at q; simp at q
                  have hz0 : n' = 0 → z = 3 := fun e => by
                    have e2 : G = [] := List.eq_nil_of_length_eq_zero (by rw [HGL.out]; exact e)
                    rw [e2, show nextR [] = (0, 3) by decide +kernel] at hyz
                    simp at hyz; exact hyz.2.symm
                  clear hyz
                  rcases Nat.eq_zero_or_pos n' with hn0 | hn0
                  · obtain rfl := hz0 hn0
                    subst hn0
                    clear hz
                    go_wp2_with (first
                      | (go_at_call 18; (with_reducible refine (Circle_is (HO.out.ext (Below.then (Below.refl _ _).drew B3.out)).rd Hg.out HC.out).mono ?_); rintro e w4 ⟨a4, n4, c4, rfl, ho4, hb4⟩; have B4 := Lib.hid hb4; clear ho4 hb4)
                      | (go_at_call 29; (with_reducible refine (Next_is (HO.out.ext (Below.then (Below.then (Below.refl _ _).drew B3.out) B4.out)).rd Hg.out HN.out).mono ?_); rintro e w5 ⟨rfl, hb5⟩; have B5 := Lib.hid hb5; clear hb5)
                      | (go_at_call 22; (with_reducible refine (Valid_is (HO.out.ext (Below.then (Below.then (Below.then (Below.refl _ _).drew B3.out) B4.out) B5.out)).rd Hg.out HS2.out.v).mono ?_); rintro e w6 ⟨rfl, hb6⟩; have B6 := Lib.hid hb6; clear hb6))
                    go_roundw
                    case rel => exact ⟨k + 1, _, _, _, _, by omega, by omega, rfl, by go_num, HO.out.ext (show Below wr.heap.size wr w6 from Below.then (Below.then (Below.then (Below.refl _ _).drew B3.out) B4.out) (Below.then B5.out B6.out)), by rw [Hg.out]; exact HS2.out, Below.then HB3.out (show Below w3.heap.size w3 w6 from Below.then (Below.then B4.out B5.out) B6.out)⟩
                    case measure => simp [intOf]; omega
                  · have hz' : (z != 0) = false := by
                      cases q : (z != 0) with
                      | false => rfl
                      | true => have := hz q; omega
                    clear hz
                    go_wp2_with (first
                      | (go_at_call 18; (with_reducible refine (Circle_is (HO.out.ext (Below.then (Below.refl _ _).drew B3.out)).rd Hg.out HC.out).mono ?_); rintro e w4 ⟨a4, n4, c4, rfl, ho4, hb4⟩; have B4 := Lib.hid hb4; clear ho4 hb4)
                      | (go_at_call 29; (with_reducible refine (Next_is (HO.out.ext (Below.then (Below.then (Below.refl _ _).drew B3.out) B4.out)).rd Hg.out HN.out).mono ?_); rintro e w5 ⟨rfl, hb5⟩; have B5 := Lib.hid hb5; clear hb5)
                      | (go_at_call 22; (with_reducible refine (Valid_is (HO.out.ext (Below.then (Below.then (Below.then (Below.refl _ _).drew B3.out) B4.out) B5.out)).rd Hg.out HS2.out.v).mono ?_); rintro e w6 ⟨rfl, hb6⟩; have B6 := Lib.hid hb6; clear hb6))
                    go_roundw
                    case rel => exact ⟨k + 1, _, _, _, _, by omega, by omega, rfl, by go_num, HO.out.ext (show Below wr.heap.size wr w6 from Below.then (Below.then (Below.then (Below.refl _ _).drew B3.out) B4.out) (Below.then B5.out B6.out)), by rw [Hg.out]; exact HS2.out, Below.then HB3.out (show Below w3.heap.size w3 w6 from Below.then (Below.then B4.out B5.out) B6.out)⟩
                    case measure => simp [intOf]; omega
            · have hk60' : decide ((k : Int) < 60) = false := by simp; omega
              have hk60'' : decide (k < 60) = false := by simp; omega
              (go_wp2_with (go_at_call 14; (with_reducible refine (sane_any _).mono ?_); rintro e w9 ⟨rfl, hb9⟩); go_ret; exact ⟨rfl, Below.then HB.out hb9⟩)
          · have hkn' : decide ((k : Int) < (n2 : Int)) = false := by simp; omega
            have hkn'' : decide (k < n2) = false := by simp; omega
            (go_wp2_with (go_at_call 14; (with_reducible refine (sane_any _).mono ?_); rintro e w9 ⟨rfl, hb9⟩); go_ret; exact ⟨rfl, Below.then HB.out hb9⟩)
end Go.Proofs.Ytmdjbnicjohkjaa
