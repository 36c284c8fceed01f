/- slices.Grow of nil and slices.Concat at pairs. The conditions are the ones that each contract names. -/
import Derived.Test.YtfiggbeaomkepaaStPIns
import Derived.Test.YtfiggbeaomkepaaAllow
import Derived.Shelf.Spec.SlicesGrow
import Derived.ArgAppend
import Derived.BigRegion
namespace Go.Proofs.Ytfiggbeaomkepaa.StP
open Go.RowKit Go.Proofs.Ytfiggbeaomkepaa
set_option linter.unusedSimpArgs false
set_option linter.unusedVariables false
def grRen : Go.Shelf.Ren := ⟨fun | 4 => 78 | n => n, fun | 0 => 0 | 3 => 3 | 4 => 4 | 9 => 9 | 20 => 20 | 22 => 34 | 25 => 61 | n => n, fun n => n⟩
theorem grLay : Go.Proofs.Lays8.n4 Try.prog grRen := {
  mixed := by kernel_rfl
  f4 := ⟨Try.f78.name, by decide, Try.func78.trans (congrArg some (by kernel_rfl))⟩
  t0 := Try.underlying0
  a0 := Try.isAgg0
  z0 := Try.sizeOf0
  v0 := Try.zeroValue0
  t3 := Try.underlying3
  a3 := Try.isAgg3
  z3 := Try.sizeOf3
  v3 := Try.zeroValue3
  t4 := Try.underlying4
  a4 := Try.isAgg4
  z4 := Try.sizeOf4
  v4 := Try.zeroValue4
  t9 := Try.underlying9
  a9 := Try.isAgg9
  z9 := Try.sizeOf9
  v9 := Try.zeroValue9
  t20 := Try.underlying20
  a20 := Try.isAgg20
  z20 := Try.sizeOf20
  v20 := Try.zeroValue20
  t22 := Try.underlying34
  a22 := Try.isAgg34
  z22 := Try.sizeOf34
  v22 := Try.zeroValue34 }
theorem grow_any (n : Nat) (w : World) (h0 : 0 < n) (hn : n ≤ 100000) : Calls Try.prog 78 #[.slice none 0 0, .int .i64 n] w fun e w' =>
    ∃ a c, e = .returned (.slice a 0 c) ∧ w'.ownsRow w.heap.size 61 2 (.slice a 0 c) 0 [] ∧ Below w.heap.size w w' := by
  obtain ⟨i0, hi0, hz0, hzs, hzb⟩ := info_parts (show (Try.prog.info? 61).map (fun i => (i.zero, i.size, i.bytes)) = some (some (.agg #[.int .i64 0, .int .i64 0]), 2, 16) by kernel_rfl)
  have := Any8.slices_Grow_grow grLay i0 _ hi0 hz0 (by omega) none 0 0 n [] w (by omega) (by omega) (by rw [hzb]; omega) (by omega) (by simp) (fun _ => rfl) (fun a h => by simp at h)
  refine this.mono ?_
  rintro e w' ⟨rfl, rfl⟩
  have hcm : grownCap w (0 + n) 0 61 ≤ maxLen := grownCap_le_maxLen w (0 + n) 0 61 (by unfold maxLen; omega)
  have hge := grownCap_ge w (0 + n) 0 61
  have hb : Below w.heap.size w w.drew := (Below.refl _ _).drew
  refine ⟨_, _, rfl, ⟨rfl, .inr ⟨w.heap.size, _, _, rfl, Nat.le_refl _, heap_alloc_new w.drew _, Nat.zero_le _, hcm, ?_, by simp⟩⟩, hb.alloc (Nat.le_refl _) _⟩
  simp only [Array.size_append, List.size_toArray, size_zeroCells]
  show 0 + (0 + n - 0) * 2 + (grownCap w (0 + n) 0 61 - (0 + n)) * 2 = grownCap w (0 + n) 0 61 * 2
  omega
theorem grow_all (n : Nat) (w : World) (hn : n ≤ 100000) : Calls Try.prog 78 #[.slice none 0 0, .int .i64 n] w fun e w' =>
    ∃ a c, e = .returned (.slice a 0 c) ∧ w'.ownsRow w.heap.size 61 2 (.slice a 0 c) 0 [] ∧ Below w.heap.size w w' := by
  rcases Nat.eq_zero_or_pos n with rfl | h
  · refine (Any8.slices_Grow_room grLay none 0 0 0 w (by omega) (by omega) (by omega) (by omega)).mono ?_
    rintro e w' ⟨rfl, rfl⟩
    exact ⟨_, _, rfl, World.ownsRow_nil _ _ _ _, by (repeat' (first | (with_reducible exact Below.refl _ _) | (with_reducible assumption) | (with_reducible refine Below.alloc ?_ ?_ _) | (with_reducible refine Below.drew ?_) | (with_reducible refine Below.draws ?_ _) | (with_reducible refine Below.setCell ?_ ?_ _) | (refine Below.then ?_ (by with_reducible assumption)) | go_size))⟩
  · exact grow_any n w h hn
/-- a slice of ints as it is handed over -/
structure ISl where
  a : Option Addr
  n : Nat
  c : Nat
  xs : List P2
deriving Inhabited
abbrev valS (s : ISl) : Value := .slice s.a s.n s.c
def ISl.ok (w : World) (s : ISl) : Prop := Rd w s.a s.n 2 (s.xs.map enc2) ∧ (s.n = 0 → (s.a = none ∧ s.c = 0) ∨ ∃ ad, s.a = some ad)
theorem ISl.ok.ext {w w' : World} {s : ISl} (h : s.ok w) (hb : Below w.heap.size w w') : s.ok w' := ⟨h.1.ext hb, h.2⟩
def sizeS : List ISl → Nat
  | [] => 0
  | s :: g => s.n + sizeS g
def catS : List ISl → List P2
  | [] => []
  | s :: g => s.xs ++ catS g
theorem catS_len {w : World} : ∀ {g : List ISl}, (∀ s ∈ g, s.ok w) → (catS g).length = sizeS g
  | [], _ => rfl
  | s :: g, h => by
    have h1 := (h s (by simp)).1.length
    have h2 := catS_len (g := g) (fun t ht => h t (by simp [ht]))
    rw [catS, sizeS, List.length_append, h1, h2]
set_option maxRecDepth 100000 in
set_option maxHeartbeats 4000000 in
theorem concat_any (a : Option Addr) (n c : Nat) (g : List ISl) (w : World) (hR : Rd w a n 1 (g.map fun s => [valS s])) (hok : ∀ s ∈ g, s.ok w) (hs : sizeS g ≤ 1000) :
    Calls Try.prog 60 #[.slice a n c] w fun e w' => ∃ a' c', e = .returned (.slice a' (sizeS g) c') ∧ w'.ownsRow w.heap.size 61 2 (.slice a' (sizeS g) c') (sizeS g) ((catS g).flatMap enc2) ∧ Below w.heap.size w w' := by
  have hsm := hR.small
  have HR := Lib.hid hR; have HOK := Lib.hid hok
  have HL : Hid (g.length = n) := Lib.hid (by have := hR.len; simpa using this)
  obtain ⟨R, hRR⟩ : ∃ R, sizeS g = R := ⟨_, rfl⟩
  have HA : Hid (0 + sizeS (g.drop 0) = R) := Lib.hid (by simpa using hRR)
  have HB0 : Hid ([] ++ catS (g.drop 0) = catS g) := Lib.hid rfl
  have HZ : Hid (0 + sizeS (g.drop 0) = R) := HA
  have hE := E2
  rw [hRR] at hs ⊢
  clear hR hok hRR
  go_enter Try.func60, Try.ntmps60
  go_wp2
  go_loopw [3, 11] (fun v i wr => ∃ k s : Nat, k ≤ n ∧ v = .int .i64 s ∧ i = .int .i64 k ∧ s + sizeS (g.drop k) = R ∧ w = wr) (fun _ i _ => n - (intOf i).toNat)
  case atStart => exact ⟨0, 0, Nat.zero_le _, rfl, rfl, HA.out, rfl⟩
  case round =>
    obtain ⟨k, s, hk, rfl, rfl, he, rfl⟩ := hrel
    have HE := Lib.hid he; clear he
    by_cases hlt : k < n
    · obtain ⟨x, b, off, rfl, hb, hc, HD⟩ := HR.out.nextV k hlt
      have hE2 := HE.out
      rw [HD.out, sizeS] at hE2
      have HE3 : Hid ((s + x.n) + sizeS (g.drop (k + 1)) = R) := Lib.hid (by omega)
      have hsx : s + x.n ≤ 1000 := by omega
      obtain ⟨xa, xn, xc, xs⟩ := x
      simp only [] at hc hsx
      simp only [valS] at hc
      clear hE2
      go_wp2_with fail
      go_roundw
      case rel => exact ⟨k + 1, s + xn, by omega, by go_num, by go_num, HE3.out, by first | rfl | trivial⟩
      case measure => simp [intOf]; omega
    · have hE2 := HE.out
      rw [List.drop_of_length_le (by rw [HL.out]; omega), sizeS, Nat.add_zero] at hE2
      subst hE2
      go_wp2_with (go_at_call 78; (with_reducible refine (grow_all s _ (by omega)).mono ?_); rintro e w2 ⟨a2, c2, rfl, hown2, hb2⟩; have HO2 := Lib.hid hown2; have B2 := Lib.hid hb2; clear hown2 hb2)
      go_loopw [6, 27] (fun v i wr => ∃ (k m : Nat) (a' : Option Addr) (c' : Nat) (ys : List P2), k ≤ n ∧ v = .slice a' m c' ∧ i = .int .i64 k ∧ m + sizeS (g.drop k) = s ∧ ys ++ catS (g.drop k) = catS g ∧ wr.ownsRow w.heap.size 61 2 (.slice a' m c') m (ys.flatMap enc2) ∧ Below w.heap.size w wr) (fun _ i _ => n - (intOf i).toNat)
      case atStart => exact ⟨0, 0, a2, c2, [], Nat.zero_le _, rfl, rfl, HZ.out, HB0.out, HO2.out, B2.out⟩
      case round =>
        clear HO2 B2
        obtain ⟨k2, m, a', c', ys, hk2, rfl, rfl, he, hy, hO, hB⟩ := hrel
        have HE4 := Lib.hid he; have HY := Lib.hid hy; have HO := Lib.hid hO; have HB := Lib.hid hB
        have hz := hB.size
        clear he hy hO hB
        by_cases hlt2 : k2 < n
        · obtain ⟨x, b, off, rfl, hb, hc, HD⟩ := (HR.out.ext HB.out).nextV k2 hlt2
          have hxm : x ∈ g := List.mem_of_mem_drop (by rw [HD.out]; simp)
          have hx := (HOK.out x hxm).ext HB.out
          have hE2 := HE4.out
          have hY2 := HY.out
          rw [HD.out, sizeS] at hE2
          rw [HD.out, catS, ← List.append_assoc] at hY2
          have HX1 := Lib.hid hx.1; have HX2 := Lib.hid hx.2
          have HE5 : Hid ((m + x.n) + sizeS (g.drop (k2 + 1)) = s) := Lib.hid (by omega)
          have HY5 := Lib.hid hY2
          have hmx : m + x.n ≤ 1000 := by omega
          obtain ⟨xa, xn, xc, xs⟩ := x
          simp only [] at hc hmx
          simp only [valS] at hc
          clear hE2 hY2 hx hxm
          go_wp2_with (at_builtin; refine wpList_pushAll (B := w.heap.size) rfl _ _ _ rfl hE enc2_len enc2_one rfl HO.out rfl HX1.out HX2.out (by omega) (by decide) (by omega) ?_; intro v3 w3 hown3 hv3 hb3; obtain ⟨a3, c3, rfl⟩ := hv3; have HO3 := Lib.hid hown3; have B3 := Lib.hid hb3; clear hown3 hb3)
          go_roundw
          case rel => exact ⟨k2 + 1, m + xn, a3, c3, ys ++ xs, by omega, rfl, by go_num, HE5.out, HY5.out, by rw [List.flatMap_append]; exact HO3.out, HB.out.trans B3.out⟩
          case measure => simp [intOf]; omega
        · have hE2 := HE4.out
          have hY2 := HY.out
          rw [List.drop_of_length_le (by rw [HL.out]; omega), sizeS, Nat.add_zero] at hE2
          rw [List.drop_of_length_le (by rw [HL.out]; omega), catS, List.append_nil] at hY2
          subst hE2
          subst hY2
          go_wp2_with fail
          go_ret
          exact ⟨_, _, rfl, HO.out, HB.out⟩
end Go.Proofs.Ytfiggbeaomkepaa.StP
