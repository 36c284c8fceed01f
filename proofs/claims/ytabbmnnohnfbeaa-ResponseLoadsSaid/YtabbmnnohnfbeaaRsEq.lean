/- The contract of equal at lists of tasks that read alike. The conditions: the slices read as named. -/
import Derived.Test.YtabbmnnohnfbeaaRsSane
import Derived.Laws.StructEq
import Derived.Deep.RegionHeld3
import Derived.Deep.DeepCutAuto
import Derived.Deep.Cut
namespace Go.Proofs.Ytabbmnnohnfbeaa
open Go.RowKit
set_option linter.unusedSimpArgs false
set_option linter.unusedVariables false
theorem eqPc (a b x y : Int) (w : World) : (Op.equalIn 10000 62 (.agg #[.int .i64 a, .int .i64 b]) (.agg #[.int .i64 x, .int .i64 y])).run Try.prog w = .ok (a == x && b == y) w := by
  have hS : Try.prog.underlying 62 = some (.struct (Try.prog.fieldsOf 62)) := by kernel_rfl
  have hp : Try.prog.stoodInHeld 62 = false := by kernel_rfl
  have u3 := Try.underlying3
  have a3 := Try.isAgg3
  have z3 := Try.sizeOf3
  rw [show (10000 : Nat) = 9999 + 1 from rfl, run_equalIn_agg w 9999 62 _ _ hS hp]
  simp only [Program.fieldsOf, Try.underlying62]
  go_simp
  by_cases e1 : a = x <;> by_cases e2 : b = y <;> simp [e1, e2]
theorem eqPat (a b c : Int) (w : World) : (Op.equalIn 10000 49 (.agg #[.int .i64 a, .int .i64 b, .int .i64 c]) (.agg #[.int .i64 a, .int .i64 b, .int .i64 c])).run Try.prog w = .ok true w := by
  have hS : Try.prog.underlying 49 = some (.struct (Try.prog.fieldsOf 49)) := by kernel_rfl
  have hp : Try.prog.stoodInHeld 49 = false := by kernel_rfl
  have u3 := Try.underlying3
  have a3 := Try.isAgg3
  have z3 := Try.sizeOf3
  rw [show (10000 : Nat) = 9999 + 1 from rfl, run_equalIn_agg w 9999 49 _ _ hS hp]
  simp only [Program.fieldsOf, Try.underlying49]
  go_simp
/-- a box with a task in it -/
structure TBox (w : World) (p : Nat) (u : Ta) (pa : Option Addr) (pn pc : Nat) : Prop where
  lt : p < w.heap.size
  c0 : w.cell? ⟨p, 0, none⟩ = some (.int .i64 u.pri)
  c1 : w.cell? ⟨p, 1, none⟩ = some (.int .i64 u.dl)
  c2 : w.cell? ⟨p, 2, none⟩ = some (.int .i64 u.first)
  c3 : w.cell? ⟨p, 3, none⟩ = some (.int .i64 u.gap)
  c4 : w.cell? ⟨p, 4, none⟩ = some (.int .i64 u.jit)
  c5 : w.cell? ⟨p, 5, none⟩ = some (.slice pa pn pc)
theorem TBox.ext {w w' : World} {p u pa pn pc} (h : TBox w p u pa pn pc) (hb : Below w.heap.size w w') : TBox w' p u pa pn pc :=
  ⟨Nat.lt_of_lt_of_le h.lt hb.size, (hb.cell (p := ⟨p, 0, none⟩) h.lt).trans h.c0, (hb.cell (p := ⟨p, 1, none⟩) h.lt).trans h.c1, (hb.cell (p := ⟨p, 2, none⟩) h.lt).trans h.c2, (hb.cell (p := ⟨p, 3, none⟩) h.lt).trans h.c3, (hb.cell (p := ⟨p, 4, none⟩) h.lt).trans h.c4, (hb.cell (p := ⟨p, 5, none⟩) h.lt).trans h.c5⟩
theorem tb_old (w : World) (p0 p1 p2 p3 p4 : Int) (ps : List P2) (pa : Option Addr) (pn pc : Nat) (o : Obj) (T : TypeId) : TBox ((w.alloc (.cells #[.int .i64 p0, .int .i64 p1, .int .i64 p2, .int .i64 p3, .int .i64 p4, .slice pa pn pc] T)).alloc o).drew w.heap.size ⟨p0, p1, p2, p3, p4, ps⟩ pa pn pc := by
  refine TBox.ext (w := w.alloc (.cells #[.int .i64 p0, .int .i64 p1, .int .i64 p2, .int .i64 p3, .int .i64 p4, .slice pa pn pc] T)) ⟨by simp, ?_, ?_, ?_, ?_, ?_, ?_⟩ (by (repeat' (first | (with_reducible exact Below.refl _ _) | (with_reducible assumption) | (with_reducible refine Below.alloc ?_ ?_ _) | (with_reducible refine Below.drew ?_) | (with_reducible refine Below.draws ?_ _) | (with_reducible refine Below.setCell ?_ ?_ _) | (refine Below.then ?_ (by with_reducible assumption)) | go_size))) <;> exact (World.cell?_alloc_new w _ T _).trans rfl
theorem tb_new (w : World) (p0 p1 p2 p3 p4 : Int) (ps : List P2) (pa : Option Addr) (pn pc : Nat) (o : Obj) (T : TypeId) : TBox ((w.alloc o).alloc (.cells #[.int .i64 p0, .int .i64 p1, .int .i64 p2, .int .i64 p3, .int .i64 p4, .slice pa pn pc] T)).drew (w.heap.size + 1) ⟨p0, p1, p2, p3, p4, ps⟩ pa pn pc := by
  have h : (w.alloc o).heap.size = w.heap.size + 1 := by simp
  rw [← h]
  refine TBox.ext (w := (w.alloc o).alloc (.cells #[.int .i64 p0, .int .i64 p1, .int .i64 p2, .int .i64 p3, .int .i64 p4, .slice pa pn pc] T)) ⟨by simp, ?_, ?_, ?_, ?_, ?_, ?_⟩ (by (repeat' (first | (with_reducible exact Below.refl _ _) | (with_reducible assumption) | (with_reducible refine Below.alloc ?_ ?_ _) | (with_reducible refine Below.drew ?_) | (with_reducible refine Below.draws ?_ _) | (with_reducible refine Below.setCell ?_ ?_ _) | (refine Below.then ?_ (by with_reducible assumption)) | go_size))) <;> exact (World.cell?_alloc_new (w.alloc o) _ T _).trans rfl
set_option maxRecDepth 100000 in
set_option maxHeartbeats 8000000 in
theorem equal_any (a b : Option Addr) (n c d : Nat) (L : List Ta) (w : World) (hA : RdL w a n L) (hB : RdL w b n L) :
    Calls Try.prog 35 #[.slice a n c, .slice b n d] w fun e w' => e = .returned (.bool true) ∧ Below w.heap.size w w' := by
  have HA := Lib.hid hA; have HB := Lib.hid hB
  have hs := hA.small
  clear hA hB
  have hEq := eqPc
  have hEp := eqPat
  have hGd := fun (op : BinOp) (x y : Operand) (xs ys : Array Value) (w : World) => run_eqGuard_agg (P := Try.prog) w op 62 x y xs ys (by kernel_rfl)
  have hGp := fun (op : BinOp) (x y : Operand) (xs ys : Array Value) (w : World) => run_eqGuard_agg (P := Try.prog) w op 49 x y xs ys (by kernel_rfl)
  go_enter Try.func35, Try.ntmps35
  go_wp2
  go_loopw [5] (fun v wr => ∃ k : Nat, k ≤ n ∧ v = .int .i64 k ∧ Below w.heap.size w wr) (fun v _ => n - (intOf v).toNat)
  case atStart => exact ⟨0, Nat.zero_le _, rfl, by (repeat' (first | (with_reducible exact Below.refl _ _) | (with_reducible assumption) | (with_reducible refine Below.alloc ?_ ?_ _) | (with_reducible refine Below.drew ?_) | (with_reducible refine Below.draws ?_ _) | (with_reducible refine Below.setCell ?_ ?_ _) | (refine Below.then ?_ (by with_reducible assumption)) | go_size))⟩
  case round =>
    obtain ⟨k, hk, rfl, hb⟩ := hrel
    have HW := Lib.hid hb
    clear hb
    by_cases hlt : k < n
    · obtain ⟨u, b1, o1, pa, pn, pc, rfl, hb1, c0, c1, c2, c3, c4, c5, hp, _, hg, _⟩ := (HA.out.ext HW.out).at_ k hlt
      obtain ⟨u', b2, o2, pa', pn', pc', rfl, hb2, d0, d1, d2, d3, d4, d5, hp', _, hg', _⟩ := (HB.out.ext HW.out).at_ k hlt
      obtain rfl : u = u' := by rw [hg] at hg'; simpa using hg'
      obtain rfl : pn = pn' := by rw [← hp.length, ← hp'.length]
      have hps := hp.small
      have HQ := Lib.hid hp
      have HQ' := Lib.hid hp'
      clear hg hg' hp hp'
      obtain ⟨p0, p1, p2, p3, p4, p5⟩ := u
      simp only [] at c0 c1 c2 c3 c4 c5 d0 d1 d2 d3 d4 d5
      have n1 : ¬ b1 = wr.heap.size := by omega
      have n2 : ¬ b2 = wr.heap.size := by omega
      go_wp2_with fail
      go_cut [6, 7] (fun s6 s7 wx => ∃ p q : Nat, s6 = .pointer (some ⟨p, 0, none⟩) ∧ s7 = .pointer (some ⟨q, 0, none⟩) ∧ TBox wx p ⟨p0, p1, p2, p3, p4, p5⟩ pa pn pc ∧ TBox wx q ⟨p0, p1, p2, p3, p4, p5⟩ pa' pn pc' ∧ Below wr.heap.size wr wx)
      case first =>
        go_region_with (fail)
        all_goals (go_wp2_with fail; go_meet; first | exact ⟨_, _, rfl, rfl, tb_old _ _ _ _ _ _ _ _ _ _ _ _, tb_new _ _ _ _ _ _ _ _ _ _ _ _, by (repeat' (first | (with_reducible exact Below.refl _ _) | (with_reducible assumption) | (with_reducible refine Below.alloc ?_ ?_ _) | (with_reducible refine Below.drew ?_) | (with_reducible refine Below.draws ?_ _) | (with_reducible refine Below.setCell ?_ ?_ _) | (refine Below.then ?_ (by with_reducible assumption)) | go_size))⟩ | exact ⟨_, _, rfl, rfl, tb_new _ _ _ _ _ _ _ _ _ _ _ _, tb_old _ _ _ _ _ _ _ _ _ _ _ _, by (repeat' (first | (with_reducible exact Below.refl _ _) | (with_reducible assumption) | (with_reducible refine Below.alloc ?_ ?_ _) | (with_reducible refine Below.drew ?_) | (with_reducible refine Below.draws ?_ _) | (with_reducible refine Below.setCell ?_ ?_ _) | (refine Below.then ?_ (by with_reducible assumption)) | go_size))⟩)
      case rest =>
        obtain ⟨p, q, rfl, rfl, hP, hP', hBc⟩ := hcut
        have HC := Lib.hid hBc
        have HQc := Lib.hid (HQ.out.ext HC.out)
        have HQc' := Lib.hid (HQ'.out.ext HC.out)
        have HWc := Lib.hid (Below.then HW.out HC.out)
        have HP := Lib.hid hP
        have HP' := Lib.hid hP'
        clear c0 c1 c2 c3 c4 c5 d0 d1 d2 d3 d4 d5 n1 n2
        have f0 := hP.c0; have f1 := hP.c1; have f2 := hP.c2; have f3 := hP.c3; have f4 := hP.c4; have f5 := hP.c5
        have g0 := hP'.c0; have g1 := hP'.c1; have g2 := hP'.c2; have g3 := hP'.c3; have g4 := hP'.c4; have g5 := hP'.c5
        simp only [] at f0 f1 f2 f3 f4 f5 g0 g1 g2 g3 g4 g5
        clear hP hP' hBc
        go_wp2_with fail
        go_loopw [8] (fun v wi => ∃ j : Nat, j ≤ pn ∧ v = .int .i64 j ∧ Below wc.heap.size wc wi) (fun v _ => pn - (intOf v).toNat)
        case atStart => exact ⟨0, Nat.zero_le _, rfl, Below.refl _ _⟩
        case round =>
          clear f0 f1 f2 f3 f4 f5 g0 g1 g2 g3 g4 g5
          obtain ⟨j, hj, rfl, hB2⟩ := hrel
          have HB2 := Lib.hid hB2
          have f5 := (HP.out.ext hB2).c5
          have g5 := (HP'.out.ext hB2).c5
          have hl1 := (HP.out.ext hB2).lt
          have hl2 := (HP'.out.ext hB2).lt
          clear hB2
          by_cases hjt : j < pn
          · obtain ⟨z1, z2, b3, off1, rfl, hb3, e1, e2, hz, _⟩ := (HQc.out.ext HB2.out).pc_at j hjt
            obtain ⟨y1, y2, b4, off2, rfl, hb4, h1, h2, hz', _⟩ := (HQc'.out.ext HB2.out).pc_at j hjt
            rw [hz] at hz'
            simp only [Option.some.injEq, Prod.mk.injEq] at hz'
            obtain ⟨rfl, rfl⟩ := hz'
            go_wp2_with (refine wp_region_later_lit (by kernel_rfl) (by kernel_rfl) ?_; (repeat (go_big_quiet_step (fail))); refine wpQuiet_nil ?_; intro w1 hb1; obtain ⟨hc1, hf1, hz1, hr1⟩ := bfacts hb1; (try simp only [World.size_alloc, World.size_setCell, World.size_drew, World.size_drewN] at hz1 hr1); (try have hw0 : w.heap.size < w1.heap.size := by omega); (try have hw1 : w.heap.size + 1 < w1.heap.size := by omega); (try have hw2 : w.heap.size + 1 + 1 < w1.heap.size := by omega))
            go_roundw
            case rel => exact ⟨j + 1, by omega, by go_num, Below.then HB2.out (by (repeat' (first | (with_reducible exact Below.refl _ _) | (with_reducible assumption) | (with_reducible refine Below.alloc ?_ ?_ _) | (with_reducible refine Below.drew ?_) | (with_reducible refine Below.draws ?_ _) | (with_reducible refine Below.setCell ?_ ?_ _) | (refine Below.then ?_ (by with_reducible assumption)) | go_size)))⟩
            case measure => simp [intOf]; omega
          · go_wp2
            go_roundw
            case rel => exact ⟨k + 1, by omega, by go_num, Below.then HWc.out HB2.out⟩
            case measure => simp [intOf]; omega
    · go_wp2
      go_ret
      exact ⟨rfl, HW.out⟩
end Go.Proofs.Ytabbmnnohnfbeaa
