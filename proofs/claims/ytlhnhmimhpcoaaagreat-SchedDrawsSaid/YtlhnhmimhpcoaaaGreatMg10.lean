/- Contracts of the reference's small methods: write, event, inside, ready. The conditions: the run under way reads as named. The contract of the reference's over. The conditions: the run under way reads as named. The contract of the reference's begins. The conditions: the run under way reads as named. The contract of the reference's chosen. The conditions: the run under way reads as named. -/
import Derived.Test.YtlhnhmimhpcoaaaGreatMg9
import Derived.Test.YtlhnhmimhpcoaaaGreatMg5
import Derived.Test.YtlhnhmimhpcoaaaGreatMg7
import Derived.Test.YtlhnhmimhpcoaaaGreatMg8
namespace Go.Proofs.YtlhnhmimhpcoaaaGreat
open Go.RowKit
set_option linter.unusedSimpArgs false
set_option linter.unusedVariables false
set_option maxRecDepth 10000 in
set_option maxHeartbeats 1000000 in
theorem rwrite_any {M : RPar} {w : World} {s : Ms} {at_ : List Nat} (hl : RLay M) (hM : PlM M w s at_) (ho : s.o.length ≤ 2000000) (m k wh a b : Int) :
    Calls Tryz.prog 92 #[.pointer (some ⟨M.p, 0, none⟩), .int .i64 m, .int .i64 k, .int .i64 wh, .int .i64 a, .int .i64 b] w fun e w' => e = .returned (.tuple #[]) ∧ PlM M w' (s.wr ⟨m, k, wh, a, b⟩) at_ := by
  obtain ⟨ea, en, ec, h1, h2⟩ := hM.en
  have hlen : en = s.o.length := by
    have := (Rd.of_owns encE_len (by decide) h2).length; simpa using this.symm
  have H2 := Lib.hid h2; have H1 := Lib.hid h1; have HM := Lib.hid hM
  have e5 := EEn
  have hk := hM.kl
  have hpK := hl.p.2
  have hf := hM.fp 8
  have hen : en ≤ 2000000 := by omega
  clear hM h2 hlen
  go_enter Tryz.func92, Tryz.ntmps92
  go_wp2_with (at_builtin; refine wpList_pushM (N := w.heap.size) (v := .slice ea en ec) (by simp) rfl _ _ _ rfl e5 rfl H2.out rfl rfl (by intro u hu; simp at hu; rcases hu with rfl | rfl | rfl | rfl | rfl <;> rfl) (by omega) (by decide) hk ?_; intro a3 c3 w3 hown3 hg3; have hb3 : Below M.K w w3 := ((Below.refl M.K w).alloc hk _).trans (grown_below (H2.out.alloc _) hg3 (by rw [World.size_alloc]; omega)); have q9 := (hb3.cell (p := ⟨M.p, 8, none⟩) hpK).trans h1; have f9 := (hb3.frozen (p := ⟨M.p, 8, none⟩) hpK).trans hf; have HO3 := Lib.hid hown3; have HG3 := Lib.hid hg3; clear hown3 hg3 hb3)
  go_end0
  exact ⟨rfl, HM.out.entry hl H1.out H2.out HO3.out HG3.out⟩
/-- the order's cell -/
theorem PlM.ocell {M : RPar} {w : World} {s : Ms} {at_ : List Nat} (h : PlM M w s at_) (hl : RLay M) {i : Nat} (hi : i < M.R.L.length) {a : Nat} {x : Int} (hx : (ordE (evA M.R i))[a]? = some x) :
    ∃ b off, (M.oh i).a = some ⟨b, off, none⟩ ∧ a < (M.oh i).n ∧ b < w.heap.size ∧ w.cell? ⟨b, off + a, none⟩ = some (.int .i64 x) := by
  have hlen := (h.od i hi).length
  have ha := (List.getElem?_eq_some_iff.1 hx).1
  obtain ⟨y, b, off, e, hb, hc, hy⟩ := (h.od i hi).idx a (by omega)
  rw [hx] at hy
  simp at hy; subst hy
  exact ⟨b, off, e, by omega, hb, hc⟩
set_option maxRecDepth 10000 in
set_option maxHeartbeats 1000000 in
theorem revent_any {M : RPar} {w : World} {s : Ms} {at_ : List Nat} {i : Nat} (hl : RLay M) (hM : PlM M w s at_) (hi : i < M.R.L.length) {x : Int} (hx : (ordE (evA M.R i))[atA at_ i]? = some x) :
    Calls Tryz.prog 94 #[.pointer (some ⟨M.p, 0, none⟩), .int .i64 i] w fun e w' => e = .returned (.int .i64 x) ∧ Below w.heap.size w w' := by
  obtain ⟨b, off, e, ha, hb, hc⟩ := hM.ocell hl hi hx
  obtain ⟨s0, s1, _, _, _, _⟩ := hM.scells hi
  have c7 := hM.c7
  rw [hl.s (by omega)] at c7
  rw [e] at s0
  have hp := World.block_lt_of_cell? w _ c7
  have hS := World.block_lt_of_cell? w _ s0
  simp only [] at hp hS
  obtain ⟨a, hat⟩ : ∃ a, atA at_ i = a := ⟨_, rfl⟩
  obtain ⟨n, hn⟩ : ∃ n, (M.oh i).n = n := ⟨_, rfl⟩
  obtain ⟨nL, hnL⟩ : ∃ n, M.R.L.length = n := ⟨_, rfl⟩
  rw [hat] at s1 hc ha
  rw [hn] at s0 ha
  rw [hnL] at c7 hi
  clear hl hM hx e hat hn hnL
  go_enter Tryz.func94, Tryz.ntmps94
  go_wp2_with (refine wp_region_later_lit (by kernel_rfl) (by kernel_rfl) ?_; (repeat (go_big_quiet_step (fail))); refine wpQuiet_nil ?_; intro w1 hb1)
  go_ret
  exact ⟨rfl, Below.then (by (repeat' (first | (with_reducible exact Below.refl _ _) | (with_reducible assumption) | (with_reducible refine Below.alloc ?_ ?_ _) | (with_reducible refine Below.drew ?_) | (with_reducible refine Below.draws ?_ _) | (with_reducible refine Below.setCell ?_ ?_ _) | (refine Below.then ?_ (by with_reducible assumption)) | go_size))) hb1⟩
set_option maxRecDepth 10000 in
set_option maxHeartbeats 1000000 in
theorem rinside_is {M : RPar} {w : World} {s : Ms} {at_ : List Nat} {i : Nat} {B : Bool} (hl : RLay M) (hM : PlM M w s at_) (hR : RdRun M.w0 M.H M.R) (hO : MOk M.R s) (hi : i < M.R.L.length) (h : insB M.R.L s i = B) :
    Calls Tryz.prog 121 #[.pointer (some ⟨M.p, 0, none⟩), .int .i64 i] w fun e w' => e = .returned (.bool B) ∧ Below w.heap.size w w' := by
  obtain ⟨b, off, pb, po, pn, pc, e1, hb, hpb, hpn, hpl, k5, k0, k1⟩ := (hM.int hR).t.pcell hi (hO.pc i hi)
  have htn := (hM.int hR).t.length
  obtain ⟨_, _, j0, j1, j2, j3⟩ := hM.scells hi
  have c0 := hM.c0
  have c7 := hM.c7
  rw [hl.s (by omega)] at c7
  rw [e1] at c0
  have hpz := World.block_lt_of_cell? w _ c0
  have hS := World.block_lt_of_cell? w _ j0
  simp only [] at hpz hS
  have hiN : i < M.H.tN := by omega
  have hB : (decide (0 < (s.ja i).t) && decide (0 ≤ lkA M.R.L i (s.ja i).p)) = B := h
  obtain ⟨jp, hjp⟩ : ∃ x, (s.ja i).p = x := ⟨_, rfl⟩
  obtain ⟨jt, hjt⟩ : ∃ x, (s.ja i).t = x := ⟨_, rfl⟩
  rw [hjp] at j0 k1 hpn hB
  rw [hjt] at j1 hB
  obtain ⟨lk, hlk⟩ : ∃ x, lkA M.R.L i jp = x := ⟨_, rfl⟩
  rw [hlk] at k1 hB
  obtain ⟨nL, hnL⟩ : ∃ x, M.R.L.length = x := ⟨_, rfl⟩
  rw [hnL] at c7 hi
  clear hM hR hO htn h hjp hjt hlk hnL k0 hpl j2 j3
  by_cases q1 : 0 < jt
  · have q1' : decide (0 < (jt : Int)) = true := by simpa using q1
    have q1'' : decide (0 < jt) = true := by simpa using q1
    have q2 : decide (0 ≤ lk) = B := by rw [q1''] at hB; simpa using hB
    clear hB
    go_enter Tryz.func121, Tryz.ntmps121
    go_wp2_with (refine wp_region_later_lit (by kernel_rfl) (by kernel_rfl) ?_; (repeat (go_big_quiet_step (fail))); refine wpQuiet_nil ?_; intro w1 hb1)
    go_ret
    exact ⟨rfl, Below.then (by (repeat' (first | (with_reducible exact Below.refl _ _) | (with_reducible assumption) | (with_reducible refine Below.alloc ?_ ?_ _) | (with_reducible refine Below.drew ?_) | (with_reducible refine Below.draws ?_ _) | (with_reducible refine Below.setCell ?_ ?_ _) | (refine Below.then ?_ (by with_reducible assumption)) | go_size))) hb1⟩
  · have q1' : decide (0 < (jt : Int)) = false := by simpa using q1
    have q1'' : decide (0 < jt) = false := by simpa using q1
    obtain rfl : B = false := by rw [q1''] at hB; simpa using hB.symm
    clear hB
    go_enter Tryz.func121, Tryz.ntmps121
    go_wp2_with (refine wp_region_later_lit (by kernel_rfl) (by kernel_rfl) ?_; (repeat (go_big_quiet_step (fail))); refine wpQuiet_nil ?_; intro w1 hb1)
    go_ret
    exact ⟨rfl, Below.then (by (repeat' (first | (with_reducible exact Below.refl _ _) | (with_reducible assumption) | (with_reducible refine Below.alloc ?_ ?_ _) | (with_reducible refine Below.drew ?_) | (with_reducible refine Below.draws ?_ _) | (with_reducible refine Below.setCell ?_ ?_ _) | (refine Below.then ?_ (by with_reducible assumption)) | go_size))) hb1⟩
/-- is a job of the reference ready? -/
def rrB (R : Rn) (at_ : List Nat) (i : Nat) (t : Int) : Bool :=
  match (ordE (evA R i))[atA at_ i]? with
  | none => false
  | some x => decide (relT (evA R i) x ≤ t)
theorem rready_is {M : RPar} {w : World} {s : Ms} {at_ : List Nat} {i : Nat} {t : Int} {B : Bool} (hl : RLay M) (hM : PlM M w s at_) (hR : RdRun M.w0 M.H M.R) (hrn : RnOk M.R) (hi : i < M.R.L.length) (h : rrB M.R at_ i t = B) :
    Calls Tryz.prog 120 #[.pointer (some ⟨M.p, 0, none⟩), .int .i64 i, .int .i64 t] w fun e w' => e = .returned (.bool B) ∧ Below w.heap.size w w' := by
  obtain ⟨s0, s1, _, _, _, _⟩ := hM.scells hi
  have c7 := hM.c7
  rw [hl.s (by omega)] at c7
  have hp := World.block_lt_of_cell? w _ c7
  have hS := World.block_lt_of_cell? w _ s0
  simp only [] at hp hS
  have hol := (hM.od i hi).length
  obtain ⟨a, hat⟩ : ∃ a, atA at_ i = a := ⟨_, rfl⟩
  unfold rrB at h
  cases hx : (ordE (evA M.R i))[atA at_ i]? with
  | none =>
    rw [hx] at h
    obtain rfl : B = false := h.symm
    have hle := List.getElem?_eq_none_iff.1 hx
    rw [hol, hat] at hle
    obtain ⟨n, hn⟩ : ∃ n, (M.oh i).n = n := ⟨_, rfl⟩
    obtain ⟨nL, hnL⟩ : ∃ n, M.R.L.length = n := ⟨_, rfl⟩
    rw [hat] at s1
    rw [hn] at s0 hle
    rw [hnL] at c7 hi
    have q : decide ((n : Int) ≤ (a : Int)) = true := by simp; omega
    have q' : decide (n ≤ a) = true := by simp; omega
    clear hl hM hR hrn h hx hat hn hnL hol
    go_enter Tryz.func120, Tryz.ntmps120
    go_wp2_with (refine wp_region_later_lit (by kernel_rfl) (by kernel_rfl) ?_; (repeat (go_big_quiet_step (fail))); refine wpQuiet_nil ?_; intro w1 hb1)
    go_ret
    exact ⟨rfl, Below.then (by (repeat' (first | (with_reducible exact Below.refl _ _) | (with_reducible assumption) | (with_reducible refine Below.alloc ?_ ?_ _) | (with_reducible refine Below.drew ?_) | (with_reducible refine Below.draws ?_ _) | (with_reducible refine Below.setCell ?_ ?_ _) | (refine Below.then ?_ (by with_reducible assumption)) | go_size))) hb1⟩
  | some x =>
    rw [hx] at h
    simp only [] at h
    obtain ⟨b, off, e, ha, hb, hc⟩ := hM.ocell hl hi hx
    have HE := Lib.hid (fun w1 (hb : Below w.heap.size w w1) => revent_any hl (hM.ext hl hb) hi hx)
    have hx0 := ordE_mem.1 (List.mem_of_getElem? hx)
    obtain ⟨xn, rfl⟩ := Int.eq_ofNat_of_zero_le hx0.1
    obtain ⟨b4, o4, ea, en, ec, e4, hb4, hv4, hev⟩ := (hM.int hR).e.at_ i (by have h1 := (hM.int hR).e.len; rw [← h1, hrn.ev]; exact hi)
    have hev' : Rd w ea en 2 ((evA M.R i).map enc2) := hev
    have hel := hev'.length
    have hxn : xn < en := by rw [← hel]; omega
    obtain ⟨y1, y2, b5, o5, rfl, hb5, g0, g1, hg, _⟩ := hev'.pc_at' xn hxn
    rw [relT_of hg] at h
    simp only [] at h
    have hyl := (hrn.el (evA M.R i) (by
      have : i < M.R.ev.length := by rw [hrn.ev]; exact hi
      unfold evA; rw [List.getElem?_eq_getElem this]; exact List.getElem_mem this)).2 _ (List.mem_of_getElem? hg)
    simp only [] at hyl
    have wy : IntKind.i64.wrap (y1 + y2) = y1 + y2 := IntWalk.i64_in _ (by omega)
    have c3 := hM.c3
    rw [e4] at c3
    have hen := (hM.int hR).e.len
    have hiN : i < M.H.eN := by rw [← hen, hrn.ev]; exact hi
    obtain ⟨n, hn⟩ : ∃ n, (M.oh i).n = n := ⟨_, rfl⟩
    obtain ⟨nL, hnL⟩ : ∃ n, M.R.L.length = n := ⟨_, rfl⟩
    rw [hat] at s1 ha
    rw [hn] at s0 ha
    rw [hnL] at c7 hi
    have q : decide ((n : Int) ≤ (a : Int)) = false := by simp; omega
    have q' : decide (n ≤ a) = false := by simp; omega
    clear hl hM hR hrn hx hat hn hnL hol hev hev' hel hg hyl hc e hx0
    go_enter Tryz.func120, Tryz.ntmps120
    go_wp2_with (refine wp_region_later_lit (by kernel_rfl) (by kernel_rfl) ?_; (repeat (go_big_quiet_step (fail))); refine wpQuiet_nil ?_; intro w1 hb1)
    have d3 := keep_c hb1 c3
    have d4 := keep_c hb1 hv4
    have d5 := keep_c hb1 g0
    have d6 := keep_c hb1 g1
    have z1 := hb1.size
    have y0 := World.block_lt_of_cell? w1 _ d3
    have y1' := World.block_lt_of_cell? w1 _ d4
    have y2' := World.block_lt_of_cell? w1 _ d5
    simp only [] at y0 y1' y2'
    go_region_held3 (fun w' => w'.cell? ⟨M.p, 3, none⟩ = some (.slice (some ⟨b4, o4, none⟩) M.H.eN M.H.eC) ∧ w'.cell? ⟨b4, o4 + i, none⟩ = some (.slice (some ⟨b5, o5, none⟩) en ec) ∧ w'.cell? ⟨b5, o5 + xn * 2, none⟩ = some (.int .i64 y1) ∧ w'.cell? ⟨b5, o5 + xn * 2 + 1, none⟩ = some (.int .i64 y2))
      (first | go_keep | (refine ⟨?_, ?_, ?_, ?_⟩ <;> (refine (World.cell?_setCell_other _ _ _ _ (addr_neS (.inl (by first | omega | (simp; omega))))).trans ?_; refine (World.cell?_setCell_other _ _ _ _ (addr_neS (.inl (by first | omega | (simp; omega))))).trans ?_; first | assumption | simp [go_sem, *])))
      (first
        | (go_at_call 94; (with_reducible refine (HE.out _ (hb1.trans (by (repeat' (first | (with_reducible exact Below.refl _ _) | (with_reducible assumption) | (with_reducible refine Below.alloc ?_ ?_ _) | (with_reducible refine Below.drew ?_) | (with_reducible refine Below.draws ?_ _) | (with_reducible refine Below.setCell ?_ ?_ _) | (refine Below.then ?_ (by with_reducible assumption)) | go_size))))).mono ?_); rintro e w2 ⟨rfl, hb2⟩; have hb3 : Below w1.heap.size w1 w2 := Below.then (by (repeat' (first | (with_reducible exact Below.refl _ _) | (with_reducible assumption) | (with_reducible refine Below.alloc ?_ ?_ _) | (with_reducible refine Below.drew ?_) | (with_reducible refine Below.draws ?_ _) | (with_reducible refine Below.setCell ?_ ?_ _) | (refine Below.then ?_ (by with_reducible assumption)) | go_size))) hb2; have B2 := Lib.hid hb3; have x3 := keep_c hb3 d3; have x4 := keep_c hb3 d4; have x5 := keep_c hb3 d5; have x6 := keep_c hb3 d6; have hz2 := hb3.size; (try (obtain n0 : w2.cell? ⟨w1.heap.size, 0, none⟩ = some (.int .i64 0); (focus (refine keep_c hb2 ?_; simp [go_sem]; done)))); (try (obtain n1 : w2.cell? ⟨w1.heap.size, 1, none⟩ = some (.int .i64 0); (focus (refine keep_c hb2 ?_; simp [go_sem]; done)))); (try (obtain n2 : w2.frozen? ⟨w1.heap.size, 0, none⟩ = false; (focus (refine (hb2.frozen (p := ⟨w1.heap.size, 0, none⟩) ?_).trans ?_ <;> (simp [go_sem]; done))))); (try (obtain n3 : w2.frozen? ⟨w1.heap.size, 1, none⟩ = false; (focus (refine (hb2.frozen (p := ⟨w1.heap.size, 1, none⟩) ?_).trans ?_ <;> (simp [go_sem]; done))))); clear hb2 hb3))
    all_goals
      go_wp2_with fail
      go_ret
      have hB2 : Below w.heap.size w w2 := Below.then hb1 B2.out
      have hz3 := hB2.size
      exact ⟨rfl, by (repeat' (first | (with_reducible exact Below.refl _ _) | (with_reducible assumption) | (with_reducible refine Below.alloc ?_ ?_ _) | (with_reducible refine Below.drew ?_) | (with_reducible refine Below.draws ?_ _) | (with_reducible refine Below.setCell ?_ ?_ _) | (refine Below.then ?_ (by with_reducible assumption)) | go_size))⟩
end Go.Proofs.YtlhnhmimhpcoaaaGreat
namespace Go.Proofs.YtlhnhmimhpcoaaaGreat
open Go.RowKit
set_option linter.unusedSimpArgs false
set_option linter.unusedVariables false
section
variable {M : RPar} {w : World} {s : Ms} {at_ : List Nat}
/-- a whole state has been laid -/
theorem PlM.zero (h : PlM M w s at_) (hl : RLay M) {i : Nat} (hi : i < M.R.L.length) (a : Nat) :
    PlM M ((((((w.setCell ⟨M.S, i * 6, none⟩ (.slice (M.oh i).a (M.oh i).n (M.oh i).c)).setCell ⟨M.S, i * 6 + 1, none⟩ (.int .i64 (a : Int))).setCell ⟨M.S, i * 6 + 2, none⟩ (.int .i64 0)).setCell ⟨M.S, i * 6 + 3, none⟩ (.int .i64 0)).setCell ⟨M.S, i * 6 + 4, none⟩ (.int .i64 0)).setCell ⟨M.S, i * 6 + 5, none⟩ (.bool false)) { s with j := s.j.set i Jb.zero } (at_.set i a) := by
  have hjl : i < s.j.length := by rw [h.jl]; exact hi
  have hal : i < at_.length := by rw [h.al]; exact hi
  have e : ∀ (q : List (List Int)) (o : List En) (x : Jb), Ms.ja ⟨q, s.j.set i x, o⟩ i = x := fun q o x => by rw [ja_set hjl, if_pos rfl]
  have ea : ∀ x, atA (at_.set i x) i = x := fun x => by rw [atA_set hal, if_pos rfl]
  have h0 := h.cell hl hi (j := 0) (by decide) (v := .slice (M.oh i).a (M.oh i).n (M.oh i).c) (a := atA at_ i) (b := s.ja i) rfl
  have h1 := h0.cell hl hi (j := 1) (by decide) (v := .int .i64 (a : Int)) (a := a) (b := s.ja i) (by rw [ea, e]; rfl)
  simp only [List.set_set] at h1
  have h2 := h1.cell hl hi (j := 2) (by decide) (v := .int .i64 0) (a := a) (b := { s.ja i with p := 0 }) (by rw [ea, e]; rfl)
  simp only [List.set_set] at h2
  have h3 := h2.cell hl hi (j := 3) (by decide) (v := .int .i64 0) (a := a) (b := { s.ja i with p := 0, t := 0 }) (by rw [ea, e]; rfl)
  simp only [List.set_set] at h3
  have h4 := h3.cell hl hi (j := 4) (by decide) (v := .int .i64 0) (a := a) (b := { s.ja i with p := 0, t := 0, d := 0 }) (by rw [ea, e]; rfl)
  simp only [List.set_set] at h4
  have h5 := h4.cell hl hi (j := 5) (by decide) (v := .bool false) (a := a) (b := Jb.zero) (by rw [ea, e]; rfl)
  simp only [List.set_set] at h5
  exact h5
end
set_option maxRecDepth 10000 in
set_option maxHeartbeats 2000000 in
theorem rover_any {M : RPar} {w : World} {s : Ms} {at_ : List Nat} {i : Nat} {t : Int} (hl : RLay M) (hM : PlM M w s at_) (hQ : QR M.R t s at_) (hi : i < M.R.L.length) (hq : s.qa i ≠ []) (ho : s.o.length ≤ 2000000) (ha : atA at_ i ≤ 1000) (m how : Int) :
    Calls Tryz.prog 95 #[.pointer (some ⟨M.p, 0, none⟩), .int .i64 i, .int .i64 m, .int .i64 how] w fun e w' => e = .returned (.tuple #[]) ∧ PlM M w' (fin1 m i how s) (at_.set i (atA at_ i + 1)) := by
  have hat : at_[i]? = some (atA at_ i) := by
    have : i < at_.length := by rw [hM.al]; exact hi
    unfold atA; rw [List.getElem?_eq_getElem this]; rfl
  have hev := hQ.event hat hq
  have HE := Lib.hid (fun w1 (hb : Below w.heap.size w w1) => revent_any hl (hM.ext hl hb) hi hev)
  have HM := Lib.hid hM
  obtain ⟨a, hA⟩ : ∃ a, atA at_ i = a := ⟨_, rfl⟩
  have HA := Lib.hid hA
  rw [hA] at ha
  have wa : IntKind.i64.wrap ((a : Int) + 1) = (a : Int) + 1 := IntWalk.i64_in _ (by omega)
  clear hM hQ hq hat hev hA
  go_enter Tryz.func95, Tryz.ntmps95
  go_wp2_with (first
    | (go_at_call 94; (with_reducible refine (HE.out _ (by (repeat' (first | (with_reducible exact Below.refl _ _) | (with_reducible assumption) | (with_reducible refine Below.alloc ?_ ?_ _) | (with_reducible refine Below.drew ?_) | (with_reducible refine Below.draws ?_ _) | (with_reducible refine Below.setCell ?_ ?_ _) | (refine Below.then ?_ (by with_reducible assumption)) | go_size)))).mono ?_); rintro e w1 ⟨rfl, hb1⟩; have HM1 := Lib.hid (HM.out.ext hl hb1); clear hb1)
    | (go_at_call 92; (with_reducible refine (rwrite_any hl HM1.out ho _ _ _ _ _).mono ?_); rintro e w2 ⟨rfl, hM2⟩; have HM2 := Lib.hid hM2; clear hM2))
  obtain ⟨s2, hs2⟩ : ∃ x, x = s.wr ⟨m, i, 5, s.hd i, how⟩ := ⟨_, rfl⟩
  rw [← hs2] at HM2
  obtain ⟨s0, s1, _, _, _, _⟩ := HM2.out.scells hi
  have c7 := HM2.out.c7
  rw [hl.s (by omega)] at c7
  rw [HA.out] at s1
  have hk := HM2.out.kl
  have hSz : M.S < w2.heap.size := Nat.lt_of_lt_of_le hl.S.2 hk
  have hpz : M.p < w2.heap.size := Nat.lt_of_lt_of_le hl.p.2 hk
  obtain ⟨_, _, y2, y3, y4, y5⟩ := HM2.out.scells hi
  have f0 := HM2.out.fS (i * 6)
  have f1 := HM2.out.fS (i * 6 + 1)
  have f2 := HM2.out.fS (i * 6 + 2)
  have f3 := HM2.out.fS (i * 6 + 3)
  have f4 := HM2.out.fS (i * 6 + 4)
  have f5 := HM2.out.fS (i * 6 + 5)
  obtain ⟨nL, hnL⟩ : ∃ n, M.R.L.length = n := ⟨_, rfl⟩
  have HNL := Lib.hid hnL
  rw [hnL] at c7 hi
  obtain ⟨oA, hoA⟩ : ∃ x, (M.oh i).a = x := ⟨_, rfl⟩
  obtain ⟨oN, hoN⟩ : ∃ x, (M.oh i).n = x := ⟨_, rfl⟩
  obtain ⟨oC, hoC⟩ : ∃ x, (M.oh i).c = x := ⟨_, rfl⟩
  rw [hoA, hoN, hoC] at s0
  have HO := Lib.hid (And.intro hoA (And.intro hoN hoC))
  have HS2 := Lib.hid hs2
  clear hnL hoA hoN hoC hs2 HE
  go_region
  all_goals
    go_wp2_with fail
    go_end0
    refine ⟨rfl, ?_⟩
    have h9 := HM2.out.zero hl (by rw [HNL.out]; exact hi) (a + 1)
    rw [HS2.out] at h9
    rw [HA.out]
    have h8 : PlM M _ (fin1 m i how s) (at_.set i (a + 1)) := h9.same (s' := fin1 m i how s) rfl rfl
    simp only [Int.natCast_add, Int.cast_ofNat_Int] at h8
    exact h8.ext hl (Below.refl _ _).drew
end Go.Proofs.YtlhnhmimhpcoaaaGreat
namespace Go.Proofs.YtlhnhmimhpcoaaaGreat
open Go.RowKit
set_option linter.unusedSimpArgs false
set_option linter.unusedVariables false
theorem QR.at_some {R : Rn} {t : Int} {s : Ms} {at_ : List Nat} (h : QR R t s at_) {i : Nat} (hi : i < R.L.length) : at_[i]? = some (atA at_ i) := by
  have : i < at_.length := by rw [h.len]; exact hi
  unfold atA; rw [List.getElem?_eq_getElem this]; rfl
theorem QR.at_le {R : Rn} {t : Int} {s : Ms} {at_ : List Nat} (hr : RnOk R) (h : QR R t s at_) {i : Nat} (hi : i < R.L.length) : atA at_ i ≤ 40 := by
  obtain ⟨_, h2⟩ := h.q i _ (h.at_some hi)
  have h1 : (outE (evA R i) t).length ≤ (ordE (evA R i)).length := List.length_filter_le _ _
  rw [ordE_len] at h1
  have h3 : (evA R i).length ≤ 40 := by
    unfold evA
    cases hev : R.ev[i]? with
    | none => simp
    | some l => exact (hr.el l (List.mem_of_getElem? hev)).1
  omega
theorem rrB_rd {R : Rn} {t : Int} {s : Ms} {at_ : List Nat} (h : QR R t s at_) {i : Nat} (hi : i < R.L.length) : rrB R at_ i t = rdB s i := by
  have hr := h.ready (h.at_some hi)
  unfold rrB
  cases hx : (ordE (evA R i))[atA at_ i]? with
  | none =>
    rw [hx] at hr
    have : ¬ s.qa i ≠ [] := fun q => by obtain ⟨x, h1, _⟩ := hr.1 q; cases h1
    exact (rdB_no.2 (by simpa using this)).symm
  | some x =>
    rw [hx] at hr
    show decide (relT (evA R i) x ≤ t) = rdB s i
    cases hd : rdB s i
    · refine decide_eq_false (fun q => ?_)
      exact hr.2 ⟨x, rfl, q⟩ (rdB_no.1 hd)
    · obtain ⟨y, h1, h2⟩ := hr.1 (rdB_iff.1 hd)
      obtain rfl : x = y := by simpa using h1
      exact decide_eq_true h2
theorem rready_q {M : RPar} {w : World} {s : Ms} {at_ : List Nat} {i : Nat} {t : Int} {B : Bool} (hl : RLay M) (hM : PlM M w s at_) (hR : RdRun M.w0 M.H M.R) (hrn : RnOk M.R) (hQ : QR M.R t s at_) (hi : i < M.R.L.length) (h : rdB s i = B) :
    Calls Tryz.prog 120 #[.pointer (some ⟨M.p, 0, none⟩), .int .i64 i, .int .i64 t] w fun e w' => e = .returned (.bool B) ∧ Below w.heap.size w w' :=
  rready_is hl hM hR hrn hi (by rw [rrB_rd hQ hi]; exact h)
theorem wr_rel {t : Int} {i k : Nat} {s : Ms} : (rel1 t i k s).o = (s.wr ⟨t, i, 1, k, 0⟩).o ∧ (rel1 t i k s).j = (s.wr ⟨t, i, 1, k, 0⟩).j := ⟨rfl, rfl⟩
theorem PlM.sig {M : RPar} {w : World} {s : Ms} {at_ : List Nat} (h : PlM M w s at_) (hl : RLay M) {i : Nat} (hi : i < M.R.L.length) : PlM M (w.setCell ⟨M.S, i * 6 + 5, none⟩ (.bool true)) { s with j := s.j.set i { s.ja i with s := true } } at_ := by
  have hal : i < at_.length := by rw [h.al]; exact hi
  have h0 := h.cell hl hi (j := 5) (by decide) (v := .bool true) (a := atA at_ i) (b := { s.ja i with s := true }) rfl
  have e : at_.set i (atA at_ i) = at_ := by
    apply List.ext_getElem?
    intro k
    rw [List.getElem?_set]
    split
    · rename_i e; subst e
      unfold atA; rw [List.getElem?_eq_getElem hal]; simp [hal]
    · rfl
  rw [e] at h0
  exact h0
set_option maxRecDepth 100000 in
set_option maxHeartbeats 8000000 in
theorem begins_any {M : RPar} {w : World} {s : Ms} {at_ : List Nat} {t : Nat} (hM : PlM M w s at_) (hl : RLay M) (hR : RdRun M.w0 M.H M.R) (hr : RnOk M.R) (hO : MOk M.R s) (hQ : QR M.R ((t : Int) - 1) s at_) (ho : s.o.length ≤ 1000000) (ht : t ≤ 10000) :
    Calls Tryz.prog 91 #[.pointer (some ⟨M.p, 0, none⟩), .int .i64 t] w fun e w' => e = .returned (.tuple #[]) ∧ ∃ at', QR M.R t (arrA M.R t s) at' ∧ PlM M w' (arrA M.R t s) at' := by
  have c3 := hM.c3
  have c5 := hM.c5
  have HM := Lib.hid hM; have HR := Lib.hid hR; have HRN := Lib.hid hr; have HO := Lib.hid hO; have HQ := Lib.hid hQ
  have hen := hR.e.len
  have hen2 := hr.ev
  have HEN := Lib.hid hen
  have hL5 := hr.r.len
  obtain ⟨nL, hnL⟩ : ∃ x, M.R.L.length = x := ⟨_, rfl⟩
  have HNL := Lib.hid hnL
  have hE5 : M.H.eN = nL := by omega
  have hn5 : nL ≤ 5 := by omega
  rw [hE5] at c3
  obtain ⟨eA, heA⟩ : ∃ x, M.H.eA = x := ⟨_, rfl⟩
  rw [heA] at c3
  have HEA := Lib.hid heA
  clear heA
  obtain ⟨sA, hsA⟩ : ∃ x, M.H.sA = x := ⟨_, rfl⟩
  obtain ⟨nS, hnS⟩ : ∃ x, M.H.sN = x := ⟨_, rfl⟩
  rw [hsA, hnS] at c5
  have HSG : Hid (Rd M.w0 sA nS 2 (M.R.sg.map enc2)) := Lib.hid (by rw [← hsA, ← hnS]; exact hR.s)
  have hnS40 : nS ≤ 40 := by rw [← HSG.out.length]; exact hr.sl
  have HC3 : Hid (∀ wx sx ax, PlM M wx sx ax → wx.cell? ⟨M.p, 2 + 1, none⟩ = some (.slice eA nL M.H.eC)) := Lib.hid (fun wx sx ax h => by have := h.c3; rw [hE5, HEA.out] at this; exact this)
  have HC5 : Hid (∀ wx sx ax, PlM M wx sx ax → wx.cell? ⟨M.p, 5, none⟩ = some (.slice sA nS M.H.sC)) := Lib.hid (fun wx sx ax h => by have := h.c5; rw [hsA, hnS] at this; exact this)
  clear hsA hnS
  clear c5
  obtain ⟨S1, hS1⟩ : ∃ x, relA (t : Int) 0 M.R.ev s = x := ⟨_, rfl⟩
  have HS1 : Hid (relA (t : Int) 0 (M.R.ev.drop 0) s = S1) := Lib.hid hS1
  have HS1' := Lib.hid hS1
  have HE5 := Lib.hid hE5
  clear hM hR hr hO hen hnL hS1 hen2 hE5 hQ c3
  go_enter Tryz.func91, Tryz.ntmps91
  go_wp2
  go_loopw [4] (fun i wr => ∃ (k : Nat) (sr : Ms), k ≤ nL ∧ i = .int .i64 k ∧ PlM M wr sr at_ ∧ relA (t : Int) k (M.R.ev.drop k) sr = S1 ∧ sr.o.length ≤ s.o.length + 40 * k) (fun i _ => nL - (intOf i).toNat)
  case atStart => exact ⟨0, s, Nat.zero_le _, rfl, HM.out, HS1.out, by omega⟩
  case round =>
    clear HS1
    obtain ⟨k, sr, hk, rfl, hM, hS, hob⟩ := hrel
    have HM2 := Lib.hid hM
    have c3 := HC3.out _ _ _ hM
    clear hM
    by_cases hkn : k < nL
    · have hkE : k < M.H.eN := by rw [HE5.out]; exact hkn
      have hkL : k < M.R.L.length := by rw [HNL.out]; exact hkn
      have hkev : k < M.R.ev.length := by rw [HEN.out]; exact hkE
      obtain ⟨b, off, ea, en, ec, hea, hb, hc, hRd⟩ := HR.out.e.at_ k hkE
      have hel := HRN.out.el (evAt M.R.ev k) (by unfold evAt; rw [List.getElem?_eq_getElem hkev]; exact List.getElem_mem hkev)
      have hen40 : en ≤ 40 := by rw [← hRd.length]; exact hel.1
      rw [relA_drop hkev] at hS
      obtain ⟨es, hes⟩ : ∃ x, evAt M.R.ev k = x := ⟨_, rfl⟩
      rw [hes] at hS hRd hel
      have HRD := Lib.hid hRd
      have HEL := Lib.hid hel.2
      obtain ⟨S2, hS2⟩ : ∃ x, relE (t : Int) k 0 es sr = x := ⟨_, rfl⟩
      rw [hS2] at hS
      have HS := Lib.hid hS
      have HS2 : Hid (relE (t : Int) k 0 (es.drop 0) sr = S2) := Lib.hid hS2
      have HCW : Hid (∀ wx sx ax, PlM M wx sx ax → wx.cell? ⟨b, off + k, none⟩ = some (.slice ea en ec)) := Lib.hid (fun wx sx ax h => (h.lb.cell (p := ⟨b, off + k, none⟩) hb).trans hc)
      obtain rfl : eA = some ⟨b, off, none⟩ := HEA.out.symm.trans hea
      clear hS hS2 hes hRd hel hc hea
      go_wp2
      go_loopw [5] (fun i wx => ∃ (j : Nat) (sx : Ms), j ≤ en ∧ i = .int .i64 j ∧ PlM M wx sx at_ ∧ relE (t : Int) k j (es.drop j) sx = S2 ∧ sx.o.length ≤ s.o.length + 40 * k + j) (fun i _ => en - (intOf i).toNat)
      case atStart => exact ⟨0, sr, Nat.zero_le _, rfl, HM2.out, HS2.out, by omega⟩
      case round =>
        clear HS2 HM2 c3
        obtain ⟨j, sx, hj, rfl, hM, hS, hob2⟩ := hrel
        have HM3 := Lib.hid hM
        have c3 := HC3.out _ _ _ hM
        have hcw := HCW.out _ _ _ hM
        have hpz := World.block_lt_of_cell? _ _ c3
        have hbz := World.block_lt_of_cell? _ _ hcw
        simp only [] at hpz hbz
        by_cases hjn : j < en
        · have hRx := HRD.out.ext hM.lb
          obtain ⟨hjl, b2, off2, rfl, hb2, d0, d1⟩ := hRx.two j hjn
          obtain ⟨⟨x, y⟩, hxy⟩ : ∃ p, es[j] = p := ⟨_, rfl⟩
          have hmem : (x, y) ∈ es := by rw [← hxy]; exact List.getElem_mem hjl
          have hlim := HEL.out _ hmem
          rw [hxy] at d0 d1
          simp only [] at d0 d1 hlim
          rw [List.drop_eq_getElem_cons hjl, relE, hxy] at hS
          simp only [] at hS
          have wx_ : IntKind.i64.wrap (x + y) = x + y := IntWalk.i64_in _ (by omega)
          by_cases hxt : x + y = (t : Int)
          · have hxt' : (x + y == (t : Int)) = true := by simpa using hxt
            rw [if_pos hxt] at hS
            have HSN := Lib.hid hS
            clear hM hS hRx hxy hmem hlim
            go_wp2_with (first
              | (refine wp_region_later_lit (by kernel_rfl) (by kernel_rfl) ?_; (repeat (go_big_quiet_step (fail))); refine wpQuiet_nil ?_; intro w1 hb1)
              | (go_at_call 92; (with_reducible refine (rwrite_any hl (HM3.out.ext hl (Below.then (by (repeat' (first | (with_reducible exact Below.refl _ _) | (with_reducible assumption) | (with_reducible refine Below.alloc ?_ ?_ _) | (with_reducible refine Below.drew ?_) | (with_reducible refine Below.draws ?_ _) | (with_reducible refine Below.setCell ?_ ?_ _) | (refine Below.then ?_ (by with_reducible assumption)) | go_size))) hb1)) (by omega) _ _ _ _ _).mono ?_); rintro e w6 ⟨rfl, hM6⟩; have HM6 := Lib.hid hM6; clear hM6))
            go_roundw
            case rel => exact ⟨j + 1, rel1 (t : Int) k j sx, hjn, by go_num, HM6.out.same rfl rfl, HSN.out, by simp [rel1]; omega⟩
            case measure => simp [intOf]; omega
          · have hxt' : (x + y == (t : Int)) = false := by simpa using hxt
            rw [if_neg hxt] at hS
            have HSN := Lib.hid hS
            clear hM hS hRx hxy hmem hlim
            go_wp2_with (refine wp_region_later_lit (by kernel_rfl) (by kernel_rfl) ?_; (repeat (go_big_quiet_step (fail))); refine wpQuiet_nil ?_; intro w1 hb1)
            go_roundw
            case rel => exact ⟨j + 1, sx, hjn, by go_num, HM3.out.ext hl (Below.then (by (repeat' (first | (with_reducible exact Below.refl _ _) | (with_reducible assumption) | (with_reducible refine Below.alloc ?_ ?_ _) | (with_reducible refine Below.drew ?_) | (with_reducible refine Below.draws ?_ _) | (with_reducible refine Below.setCell ?_ ?_ _) | (refine Below.then ?_ (by with_reducible assumption)) | go_size))) hb1), HSN.out, by omega⟩
            case measure => simp [intOf]; omega
        · have he : sx = S2 := by
            rw [List.drop_of_length_le (by have := HRD.out.length; omega)] at hS
            exact hS
          subst he
          clear hM hS
          go_wp2
          go_roundw
          case rel => exact ⟨k + 1, sx, hkn, by go_num, HM3.out, HS.out, by omega⟩
          case measure => simp [intOf]; omega
    · have he : sr = S1 := by
        rw [List.drop_of_length_le (by rw [HEN.out, HE5.out]; omega)] at hS
        exact hS
      have HM1 : Hid (PlM M wr S1 at_) := Lib.hid (by rw [← he]; exact HM2.out)
      have hob1 : S1.o.length ≤ s.o.length + 200 := by rw [← he]; omega
      have hOM1 : MOk M.R S1 := by rw [← HS1'.out]; exact HO.out.relA HRN.out _
      have hQ1 : QR M.R t S1 at_ := by rw [← HS1'.out]; exact HQ.out.rel HRN.out HO.out
      have HOM1 := Lib.hid hOM1
      have HQ1 := Lib.hid hQ1
      obtain ⟨S3, hS3⟩ : ∃ x, sigA (t : Int) M.R.sg S1 = x := ⟨_, rfl⟩
      have HS3 : Hid (sigA (t : Int) (M.R.sg.drop 0) S1 = S3) := Lib.hid hS3
      have HS3' := Lib.hid hS3
      have c5 := HC5.out _ _ _ HM1.out
      clear hS hS3 he HM2 hob hOM1 hQ1
      go_wp2
      go_loopw [6] (fun i wx => ∃ (j : Nat) (sx : Ms), j ≤ nS ∧ i = .int .i64 j ∧ PlM M wx sx at_ ∧ MOk M.R sx ∧ QR M.R t sx at_ ∧ sigA (t : Int) (M.R.sg.drop j) sx = S3 ∧ sx.o.length ≤ s.o.length + 200 + j) (fun i _ => nS - (intOf i).toNat)
      case atStart => exact ⟨0, S1, Nat.zero_le _, rfl, HM1.out, HOM1.out, HQ1.out, HS3.out, by omega⟩
      case round =>
        clear HS3 HM1 c5 HOM1 HQ1
        obtain ⟨j, sx, hj, rfl, hM, hO, hQ, hS, hob2⟩ := hrel
        have HM3 := Lib.hid hM; have HO3 := Lib.hid hO; have HQ3 := Lib.hid hQ
        have c5 := HC5.out _ _ _ hM
        by_cases hjn : j < nS
        · obtain ⟨hjl, b2, off2, rfl, hb2, d0, d1⟩ := (HSG.out.ext hM.lb).two j hjn
          obtain ⟨⟨x, y⟩, hxy⟩ : ∃ p, M.R.sg[j] = p := ⟨_, rfl⟩
          have hmem : (x, y) ∈ M.R.sg := by rw [← hxy]; exact List.getElem_mem hjl
          have hlim := HRN.out.sg _ hmem
          rw [hxy] at d0 d1
          simp only [] at d0 d1 hlim
          obtain ⟨ix, rfl⟩ := Int.eq_ofNat_of_zero_le hlim.1
          have hixL : ix < M.R.L.length := by omega
          have hixn : ix < nL := by rw [← HNL.out]; exact hixL
          rw [List.drop_eq_getElem_cons hjl, sigA, hxy, sigS] at hS
          simp only [Int.toNat_natCast] at hS
          by_cases hxt : x = (t : Int)
          · have hxt' : (x == (t : Int)) = true := by simpa using hxt
            subst hxt
            cases hrd : rdB sx ix
            · rw [if_neg (fun q => q.2 (rdB_no.1 hrd))] at hS
              have HSN := Lib.hid hS; have HRDB := Lib.hid hrd
              clear hM hO hQ hS hxy hmem hlim hrd
              go_wp2_with (go_at_call 120; (with_reducible refine (rready_q hl HM3.out HR.out HRN.out HQ3.out hixL HRDB.out).mono ?_); rintro e w6 ⟨rfl, hb6⟩; have HM6 := Lib.hid (HM3.out.ext hl hb6); clear hb6)
              go_roundw
              case rel => exact ⟨j + 1, sx, hjn, by go_num, HM6.out, HO3.out, HQ3.out, HSN.out, by omega⟩
              case measure => simp [intOf]; omega
            · have hrd' := rdB_iff.1 hrd
              rw [if_pos ⟨rfl, hrd'⟩] at hS
              have HSN := Lib.hid hS; have HRDB := Lib.hid hrd
              have HO4 : Hid (MOk M.R (sig1 (t : Int) ix sx)) := Lib.hid (by
                have := hO.sigS (t : Int) (g := ((t : Int), (ix : Int))) hlim
                unfold sigS at this
                rw [if_pos ⟨rfl, hrd'⟩] at this
                exact this)
              have HQ4 : Hid (QR M.R t (sig1 (t : Int) ix sx) at_) := Lib.hid (hQ.of rfl)
              clear hM hO hQ hS hxy hmem hlim hrd hrd'
              go_wp2_with (go_at_call 120; (with_reducible refine (rready_q hl HM3.out HR.out HRN.out HQ3.out hixL HRDB.out).mono ?_); rintro e w6 ⟨rfl, hb6⟩; have HM6 := Lib.hid (HM3.out.ext hl hb6); clear hb6; obtain ⟨_, _, _, _, _, j5⟩ := HM6.out.scells hixL; have f5 := HM6.out.fS (ix * 6 + 5); have c7 := HM6.out.c7; rw [hl.s (by omega), HNL.out] at c7; have c5' := HC5.out _ _ _ HM6.out; have hSz : M.S < w6.heap.size := Nat.lt_of_lt_of_le hl.S.2 HM6.out.kl; have hpz : M.p < w6.heap.size := Nat.lt_of_lt_of_le hl.p.2 HM6.out.kl; have HM7 := Lib.hid (HM6.out.sig hl hixL))
              go_wp2_with (go_at_call 92; (with_reducible refine (rwrite_any hl HM7.out (by simp only []; omega) _ _ _ _ _).mono ?_); rintro e w8 ⟨rfl, hM8⟩; have HM8 := Lib.hid hM8; clear hM8)
              go_roundw
              case rel => exact ⟨j + 1, sig1 (t : Int) ix sx, hjn, by go_num, HM8.out.same rfl rfl, HO4.out, HQ4.out, HSN.out, by simp [sig1]; omega⟩
              case measure => simp [intOf]; omega
          · have hxt' : (x == (t : Int)) = false := by simpa using hxt
            rw [if_neg (fun q => hxt q.1)] at hS
            have HSN := Lib.hid hS
            clear hM hO hQ hS hxy hmem hlim
            go_wp2
            go_roundw
            case rel => exact ⟨j + 1, sx, hjn, by go_num, HM3.out, HO3.out, HQ3.out, HSN.out, by omega⟩
            case measure => simp [intOf]; omega
        · have he : sx = S3 := by
            rw [List.drop_of_length_le (by have := HSG.out.length; omega)] at hS
            exact hS
          subst he
          obtain ⟨S4, hS4⟩ : ∃ x, endA M.R.L (t : Int) nL 0 sx = x := ⟨_, rfl⟩
          have HS4 : Hid (endA M.R.L (t : Int) (nL - 0) 0 sx = S4) := Lib.hid hS4
          have hfin : arrA M.R t s = S4 := by
            unfold arrA
            rw [HNL.out, HS1'.out, HS3'.out]; exact hS4
          have HFIN := Lib.hid hfin
          have c7 := HM3.out.c7
          rw [HNL.out] at c7
          have hjs : j ≤ 40 := by omega
          clear hM hO hQ hS hS4 hfin
          go_wp2
          go_loopw [8] (fun i wy => ∃ (k : Nat) (sy : Ms) (ay : List Nat), k ≤ nL ∧ i = .int .i64 k ∧ PlM M wy sy ay ∧ MOk M.R sy ∧ QR M.R t sy ay ∧ endA M.R.L (t : Int) (nL - k) k sy = S4 ∧ sy.o.length ≤ s.o.length + 240 + k) (fun i _ => nL - (intOf i).toNat)
          case atStart => exact ⟨0, sx, at_, Nat.zero_le _, rfl, HM3.out, HO3.out, HQ3.out, HS4.out, by omega⟩
          case round =>
            clear HS4 HM3 HO3 HQ3 c7
            obtain ⟨k, sy, ay, hk, rfl, hM, hO, hQ, hS, hob3⟩ := hrel
            have HM4 := Lib.hid hM; have HO4 := Lib.hid hO; have HQ4 := Lib.hid hQ
            have c7 := hM.c7
            rw [HNL.out] at c7
            by_cases hkn2 : k < nL
            · have hkL : k < M.R.L.length := by rw [HNL.out]; exact hkn2
              rw [show nL - k = (nL - (k + 1)) + 1 by omega, endA] at hS
              obtain ⟨_, _, _, _, _, j5⟩ := hM.scells hkL
              have hsk := hl.s (by omega)
              have HJ5 : Hid (∀ wz, PlM M wz sy ay → wz.cell? ⟨M.S, k * 6 + 5, none⟩ = some (.bool (sy.ja k).s)) := Lib.hid (fun wz h => (h.scells hkL).2.2.2.2.2)
              have HC7 : Hid (∀ wz, PlM M wz sy ay → wz.cell? ⟨M.p, 7, none⟩ = some (.slice (some ⟨M.S, 0, none⟩) nL M.sc)) := Lib.hid (fun wz h => by have := h.c7; rw [hsk, HNL.out] at this; exact this)
              rw [hsk] at c7
              by_cases hcond : sy.qa k ≠ [] ∧ (sy.ja k).s = true ∧ insB M.R.L sy k = false
              · have hrd := rdB_iff.2 hcond.1
                have hat := hQ.at_le HRN.out hkL
                have e : endS M.R.L (t : Int) k sy = fin1 (t : Int) k 1 sy := if_pos hcond
                rw [e] at hS
                have HSN := Lib.hid hS; have HRDB := Lib.hid hrd; have HINS := Lib.hid hcond.2.2
                have hq0 := hcond.1
                have HOF : Hid (MOk M.R (fin1 (t : Int) k 1 sy)) := Lib.hid (hO.fin HRN.out _ _ hkL)
                have HQF : Hid (QR M.R t (fin1 (t : Int) k 1 sy) (ay.set k (atA ay k + 1))) := Lib.hid (hQ.fin hO (hQ.at_some hkL) hq0 _ _)
                have HJ6 : Hid (∀ wz, PlM M wz sy ay → wz.cell? ⟨M.S, k * 6 + 5, none⟩ = some (.bool true)) := Lib.hid (fun wz h => by have := HJ5.out wz h; rw [hcond.2.1] at this; exact this)
                have HQ0 := Lib.hid hq0
                clear hM hO hQ hS hrd hcond e j5 HJ5 hq0
                go_wp2_with (first
                  | (go_at_call 120; (with_reducible refine (rready_q hl HM4.out HR.out HRN.out HQ4.out hkL HRDB.out).mono ?_); rintro e w6 ⟨rfl, hb6⟩; have HM6 := Lib.hid (HM4.out.ext hl hb6); clear hb6; have x5 := HJ6.out _ HM6.out; have x7 := HC7.out _ HM6.out)
                  | (go_at_call 121; (with_reducible refine (rinside_is hl HM6.out HR.out HO4.out hkL HINS.out).mono ?_); rintro e w7 ⟨rfl, hb7⟩; have HM7 := Lib.hid (HM6.out.ext hl hb7); clear hb7)
                  | (go_at_call 95; (with_reducible refine (rover_any hl HM7.out HQ4.out hkL HQ0.out (by omega) (by omega) _ _).mono ?_); rintro e w8 ⟨rfl, hM8⟩; have HM8 := Lib.hid hM8; clear hM8))
                go_roundw
                case rel => exact ⟨k + 1, _, _, hkn2, by go_num, HM8.out, HOF.out, HQF.out, HSN.out, by simp [fin1]; omega⟩
                case measure => simp [intOf]; omega
              · have e : endS M.R.L (t : Int) k sy = sy := if_neg hcond
                rw [e] at hS
                have HSN := Lib.hid hS
                cases hrd : rdB sy k
                · have HRDB := Lib.hid hrd
                  clear hM hO hQ hS hrd hcond e j5 HJ5
                  go_wp2_with (go_at_call 120; (with_reducible refine (rready_q hl HM4.out HR.out HRN.out HQ4.out hkL HRDB.out).mono ?_); rintro e w6 ⟨rfl, hb6⟩; have HM6 := Lib.hid (HM4.out.ext hl hb6); clear hb6)
                  go_roundw
                  case rel => exact ⟨k + 1, sy, ay, hkn2, by go_num, HM6.out, HO4.out, HQ4.out, HSN.out, by omega⟩
                  case measure => simp [intOf]; omega
                · have HRDB := Lib.hid hrd
                  cases hsf : (sy.ja k).s
                  · have HJ6 : Hid (∀ wz, PlM M wz sy ay → wz.cell? ⟨M.S, k * 6 + 5, none⟩ = some (.bool false)) := Lib.hid (fun wz h => by have := HJ5.out wz h; rw [hsf] at this; exact this)
                    clear hM hO hQ hS hrd hcond e j5 HJ5 hsf
                    go_wp2_with (go_at_call 120; (with_reducible refine (rready_q hl HM4.out HR.out HRN.out HQ4.out hkL HRDB.out).mono ?_); rintro e w6 ⟨rfl, hb6⟩; have HM6 := Lib.hid (HM4.out.ext hl hb6); clear hb6; have x5 := HJ6.out _ HM6.out; have x7 := HC7.out _ HM6.out)
                    go_roundw
                    case rel => exact ⟨k + 1, sy, ay, hkn2, by go_num, HM6.out, HO4.out, HQ4.out, HSN.out, by omega⟩
                    case measure => simp [intOf]; omega
                  · have hins : insB M.R.L sy k = true := by
                      cases hi : insB M.R.L sy k
                      · exact absurd ⟨rdB_iff.1 hrd, hsf, hi⟩ hcond
                      · rfl
                    have HINS := Lib.hid hins
                    have HJ6 : Hid (∀ wz, PlM M wz sy ay → wz.cell? ⟨M.S, k * 6 + 5, none⟩ = some (.bool true)) := Lib.hid (fun wz h => by have := HJ5.out wz h; rw [hsf] at this; exact this)
                    clear hM hO hQ hS hrd hcond e j5 HJ5 hsf hins
                    go_wp2_with (first
                      | (go_at_call 120; (with_reducible refine (rready_q hl HM4.out HR.out HRN.out HQ4.out hkL HRDB.out).mono ?_); rintro e w6 ⟨rfl, hb6⟩; have HM6 := Lib.hid (HM4.out.ext hl hb6); clear hb6; have x5 := HJ6.out _ HM6.out; have x7 := HC7.out _ HM6.out)
                      | (go_at_call 121; (with_reducible refine (rinside_is hl HM6.out HR.out HO4.out hkL HINS.out).mono ?_); rintro e w7 ⟨rfl, hb7⟩; have HM7 := Lib.hid (HM6.out.ext hl hb7); clear hb7))
                    go_roundw
                    case rel => exact ⟨k + 1, sy, ay, hkn2, by go_num, HM7.out, HO4.out, HQ4.out, HSN.out, by omega⟩
                    case measure => simp [intOf]; omega
            · have he : sy = S4 := by
                rw [show nL - k = 0 by omega] at hS
                exact hS
              subst he
              clear hM hO hQ hS
              go_wp2
              go_end0
              refine ⟨rfl, ay, ?_⟩
              rw [HFIN.out]
              exact ⟨HQ4.out, HM4.out⟩
end Go.Proofs.YtlhnhmimhpcoaaaGreat
namespace Go.Proofs.YtlhnhmimhpcoaaaGreat
open Go.RowKit
set_option linter.unusedSimpArgs false
set_option linter.unusedVariables false
theorem rRaised_is {a : Option Addr} {n c : Nat} {L : List Ta} {t p x y : Int} {w : World} (hL : RdL w a n L) (h : raisedR L t p = (x, y)) :
    Calls Tryz.prog 122 #[.slice a n c, .int .i64 t, .int .i64 p] w fun e w' => e = rII x y ∧ Below w.heap.size w w' := by
  have := rRaised_any a n c L t p w hL
  rw [h] at this; exact this
set_option maxRecDepth 100000 in
set_option maxHeartbeats 8000000 in
theorem chosen_any {M : RPar} {w : World} {s : Ms} {at_ : List Nat} {t : Nat} (hM : PlM M w s at_) (hl : RLay M) (hR : RdRun M.w0 M.H M.R) (hr : RnOk M.R) (hO : MOk M.R s) (hQ : QR M.R t s at_) :
    Calls Tryz.prog 93 #[.pointer (some ⟨M.p, 0, none⟩), .int .i64 t] w fun e w' => e = .returned (.int .i64 (chM M.R.L s)) ∧ Below w.heap.size w w' := by
  have c7 := hM.c7
  have hL5 := hr.r.len
  have HM := Lib.hid hM; have HR := Lib.hid hR; have HRN := Lib.hid hr; have HO := Lib.hid hO; have HQ := Lib.hid hQ
  obtain ⟨X, hX⟩ : ∃ X, chM M.R.L s = X := ⟨_, rfl⟩
  rw [hX]
  obtain ⟨nL, hnL⟩ : ∃ x, M.R.L.length = x := ⟨_, rfl⟩
  have HN : Hid (M.R.L.length = nL) := Lib.hid hnL
  have HX : Hid (chR M.R.L s (nL - 0) 0 (-1) 0 = X) := Lib.hid (by
    rw [Nat.sub_zero, ← HN.out, chR_eq hO M.R.L.length 0 (-1) 0 (by omega) (by omega) (.inl (by omega))]; exact hX)
  have hn5 : nL ≤ 5 := by omega
  rw [hnL] at c7
  clear hM hR hr hO hX hnL hQ
  go_enter Tryz.func93, Tryz.ntmps93
  go_wp2
  go_loopw [5, 6, 7] (fun b r i wr => ∃ (k : Nat) (bb rr : Int), k ≤ nL ∧ b = .int .i64 bb ∧ r = .int .i64 rr ∧ i = .int .i64 k ∧ -1 ≤ bb ∧ bb < k ∧ chR M.R.L s (nL - k) k bb rr = X ∧ Below w.heap.size w wr) (fun _ _ i _ => nL - (intOf i).toNat)
  case atStart => exact ⟨0, -1, 0, Nat.zero_le _, rfl, rfl, rfl, by omega, by omega, HX.out, Below.refl _ _⟩
  case round =>
    clear HX c7
    obtain ⟨k, bb, rr, hk, rfl, rfl, rfl, hb1, hb2, hX, hB⟩ := hrel
    have HB := Lib.hid hB
    have hMx := HM.out.ext hl hB
    have HMX := Lib.hid hMx
    have c7 := hMx.c7
    rw [HN.out] at c7
    by_cases hkn : k < nL
    · have hkL : k < M.R.L.length := by rw [HN.out]; exact hkn
      rw [show nL - k = (nL - (k + 1)) + 1 by omega, chR] at hX
      have c6 := hMx.c6
      rw [HN.out] at c6
      have rkk := hMx.rk k hkL
      obtain ⟨ck, hck⟩ : ∃ x, cnt M.R.L (k : Int) = x := ⟨_, rfl⟩
      rw [hck] at rkk
      cases hrd : rdB s k
      · have hq := rdB_no.1 hrd
        rw [if_pos hq] at hX
        have HX2 := Lib.hid hX; have HRDB := Lib.hid hrd
        clear hX hq hrd hMx hB
        go_wp2_with (go_at_call 120; (with_reducible refine (rready_q hl HMX.out HR.out HRN.out HQ.out hkL HRDB.out).mono ?_); rintro e w6 ⟨rfl, hb6⟩; have HM6 := Lib.hid (HMX.out.ext hl hb6); have B6 := Lib.hid (Below.then HB.out hb6); have d6 := keep_c hb6 c6; have d9 := keep_c hb6 rkk; clear hb6)
        go_roundw
        case rel => exact ⟨k + 1, bb, rr, hkn, rfl, rfl, by go_num, hb1, by omega, HX2.out, B6.out⟩
        case measure => simp [intOf]; omega
      · have hq := rdB_iff.1 hrd
        have HRDB := Lib.hid hrd
        rw [if_neg hq] at hX
        obtain ⟨BI, hBI⟩ : ∃ B, insB M.R.L s k = B := ⟨_, rfl⟩
        have HINS := Lib.hid hBI
        cases BI
        · have e1 : toI M.R.L s k = k := toI_no hBI
          rw [e1, hck, hBI] at hX
          by_cases h0 : bb < 0
          · have h0' : decide (bb < 0) = true := by simpa using h0
            rw [if_pos (.inl h0)] at hX
            have HX2 := Lib.hid hX
            clear hX hq hrd hMx hB hBI e1
            go_wp2_with (first | (go_at_call 121; (with_reducible refine (rinside_is hl HM6.out HR.out HO.out hkL HINS.out).mono ?_); rintro e w7 ⟨rfl, hb7⟩; have HM7 := Lib.hid (HM6.out.ext hl hb7); have B7 := Lib.hid (Below.then B6.out hb7); clear hb7) | (go_at_call 120; (with_reducible refine (rready_q hl HMX.out HR.out HRN.out HQ.out hkL HRDB.out).mono ?_); rintro e w6 ⟨rfl, hb6⟩; have HM6 := Lib.hid (HMX.out.ext hl hb6); have B6 := Lib.hid (Below.then HB.out hb6); have d6 := keep_c hb6 c6; have d9 := keep_c hb6 rkk; clear hb6))
            go_roundw
            case rel => exact ⟨k + 1, k, ck, hkn, rfl, rfl, by go_num, by omega, by omega, HX2.out, B7.out⟩
            case measure => simp [intOf]; omega
          · have h0' : decide (bb < 0) = false := by simpa using h0
            by_cases h1 : (ck : Int) < rr
            · have h1' : decide ((ck : Int) < rr) = true := by simpa using h1
              rw [if_pos (.inr (.inl h1))] at hX
              have HX2 := Lib.hid hX
              clear hX hq hrd hMx hB hBI e1
              go_wp2_with (first | (go_at_call 121; (with_reducible refine (rinside_is hl HM6.out HR.out HO.out hkL HINS.out).mono ?_); rintro e w7 ⟨rfl, hb7⟩; have HM7 := Lib.hid (HM6.out.ext hl hb7); have B7 := Lib.hid (Below.then B6.out hb7); clear hb7) | (go_at_call 120; (with_reducible refine (rready_q hl HMX.out HR.out HRN.out HQ.out hkL HRDB.out).mono ?_); rintro e w6 ⟨rfl, hb6⟩; have HM6 := Lib.hid (HMX.out.ext hl hb6); have B6 := Lib.hid (Below.then HB.out hb6); have d6 := keep_c hb6 c6; have d9 := keep_c hb6 rkk; clear hb6))
              go_roundw
              case rel => exact ⟨k + 1, k, ck, hkn, rfl, rfl, by go_num, by omega, by omega, HX2.out, B7.out⟩
              case measure => simp [intOf]; omega
            · have h1' : decide ((ck : Int) < rr) = false := by simpa using h1
              rw [if_neg (by rintro (q | q | ⟨_, q⟩); exact h0 q; exact h1 q; cases q)] at hX
              have HX2 := Lib.hid hX
              by_cases h2 : (ck : Int) = rr
              · have h2' : ((ck : Int) == rr) = true := by simpa using h2
                clear hX hq hrd hMx hB hBI e1
                go_wp2_with (first | (go_at_call 121; (with_reducible refine (rinside_is hl HM7.out HR.out HO.out hkL HINS.out).mono ?_); rintro e w9 ⟨rfl, hb9⟩; have HM9 := Lib.hid (HM7.out.ext hl hb9); have B9 := Lib.hid (Below.then B7.out hb9); clear hb9) | (go_at_call 121; (with_reducible refine (rinside_is hl HM6.out HR.out HO.out hkL HINS.out).mono ?_); rintro e w7 ⟨rfl, hb7⟩; have HM7 := Lib.hid (HM6.out.ext hl hb7); have B7 := Lib.hid (Below.then B6.out hb7); clear hb7) | (go_at_call 120; (with_reducible refine (rready_q hl HMX.out HR.out HRN.out HQ.out hkL HRDB.out).mono ?_); rintro e w6 ⟨rfl, hb6⟩; have HM6 := Lib.hid (HMX.out.ext hl hb6); have B6 := Lib.hid (Below.then HB.out hb6); have d6 := keep_c hb6 c6; have d9 := keep_c hb6 rkk; clear hb6))
                go_roundw
                case rel => exact ⟨k + 1, bb, rr, hkn, rfl, rfl, by go_num, by omega, by omega, HX2.out, B9.out⟩
                case measure => simp [intOf]; omega
              · have h2' : ((ck : Int) == rr) = false := by simpa using h2
                clear hX hq hrd hMx hB hBI e1
                go_wp2_with (first | (go_at_call 121; (with_reducible refine (rinside_is hl HM6.out HR.out HO.out hkL HINS.out).mono ?_); rintro e w7 ⟨rfl, hb7⟩; have HM7 := Lib.hid (HM6.out.ext hl hb7); have B7 := Lib.hid (Below.then B6.out hb7); clear hb7) | (go_at_call 120; (with_reducible refine (rready_q hl HMX.out HR.out HRN.out HQ.out hkL HRDB.out).mono ?_); rintro e w6 ⟨rfl, hb6⟩; have HM6 := Lib.hid (HMX.out.ext hl hb6); have B6 := Lib.hid (Below.then HB.out hb6); have d6 := keep_c hb6 c6; have d9 := keep_c hb6 rkk; clear hb6))
                go_roundw
                case rel => exact ⟨k + 1, bb, rr, hkn, rfl, rfl, by go_num, by omega, by omega, HX2.out, B7.out⟩
                case measure => simp [intOf]; omega
        · have hra := raised_to HRN.out HO.out hkL hBI
          have hto := HO.out.to_ hkL
          obtain ⟨tq, hte⟩ := Int.eq_ofNat_of_zero_le hto.1.1
          have htl : tq < M.R.L.length := by have := hto.1.2; omega
          have htn : tq < nL := by rw [← HN.out]; exact htl
          rw [hte] at hra hX
          obtain ⟨jp, hjp⟩ : ∃ x, (s.ja k).p = x := ⟨_, rfl⟩
          rw [hjp] at hra
          have HRA := Lib.hid hra
          obtain ⟨ct, hct⟩ : ∃ x, cnt M.R.L (tq : Int) = x := ⟨_, rfl⟩
          rw [hct, hBI] at hX
          have hsk := hl.s (by omega)
          have HRK : Hid (∀ wz, PlM M wz s at_ → wz.cell? ⟨M.rb, tq, none⟩ = some (.int .i64 (ct : Nat)) ∧ wz.cell? ⟨M.p, 7, none⟩ = some (.slice (some ⟨M.S, 0, none⟩) nL M.sc) ∧ wz.cell? ⟨M.S, k * 6 + 2, none⟩ = some (.int .i64 (jp : Int)) ∧ wz.cell? ⟨M.p, 6, none⟩ = some (.slice (some ⟨M.rb, 0, none⟩) nL nL)) := Lib.hid (fun wz h => ⟨by have := h.rk tq htl; rw [hct] at this; exact this, by have := h.c7; rw [hsk, HN.out] at this; exact this, by have := (h.scells hkL).2.2.1; rw [hjp] at this; exact this, by have := h.c6; rw [HN.out] at this; exact this⟩)
          clear hq hrd hMx hB hBI hra hto hte hjp hct htl
          go_upto_region 9 with (first | (go_at_call 121; (with_reducible refine (rinside_is hl HM6.out HR.out HO.out hkL HINS.out).mono ?_); rintro e w7 ⟨rfl, hb7⟩; have HM7 := Lib.hid (HM6.out.ext hl hb7); have B7 := Lib.hid (Below.then B6.out hb7); clear hb7) | (go_at_call 120; (with_reducible refine (rready_q hl HMX.out HR.out HRN.out HQ.out hkL HRDB.out).mono ?_); rintro e w6 ⟨rfl, hb6⟩; have HM6 := Lib.hid (HMX.out.ext hl hb6); have B6 := Lib.hid (Below.then HB.out hb6); have d6 := keep_c hb6 c6; have d9 := keep_c hb6 rkk; clear hb6))
          have y0 := HM7.out.c0
          obtain ⟨y9, y7, y2, y6⟩ := HRK.out _ HM7.out
          have HT7 := Lib.hid ((HM7.out.int HR.out).t.ext (Below.refl w7.heap.size w7).drew)
          go_region_held3 (fun w' => w'.cell? ⟨M.p, 0, none⟩ = some (.slice M.H.tA M.H.tN M.H.tC) ∧ w'.cell? ⟨M.p, 7, none⟩ = some (.slice (some ⟨M.S, 0, none⟩) nL M.sc) ∧ w'.cell? ⟨M.S, k * 6 + 2, none⟩ = some (.int .i64 (jp : Int))) (first | go_keep) (first | (go_at_call 122; (with_reducible refine (rRaised_is HT7.out HRA.out).mono ?_); rintro e w8 ⟨rfl, hb8⟩; have hb3 : Below w7.heap.size w7 w8 := Below.then (Below.refl w7.heap.size w7).drew hb8; have B8 := Lib.hid (Below.then B7.out hb3); have HM8 := Lib.hid (HM7.out.ext hl hb3); have x0 := keep_c hb3 y0; have x7 := keep_c hb3 y7; have x2 := keep_c hb3 y2; have x6 := keep_c hb3 y6; have x9 := keep_c hb3 y9; clear hb8 hb3))
          all_goals
            by_cases h0 : bb < 0
            · have h0' : decide (bb < 0) = true := by simpa using h0
              rw [if_pos (.inl h0)] at hX
              have HX2 := Lib.hid hX
              clear hX
              go_wp2_with fail
              go_roundw
              case rel => exact ⟨k + 1, k, ct, hkn, rfl, rfl, by go_num, by omega, by omega, HX2.out, B8.out⟩
              case measure => simp [intOf]; omega
            · have h0' : decide (bb < 0) = false := by simpa using h0
              by_cases h1 : (ct : Int) < rr
              · have h1' : decide ((ct : Int) < rr) = true := by simpa using h1
                rw [if_pos (.inr (.inl h1))] at hX
                have HX2 := Lib.hid hX
                clear hX
                go_wp2_with fail
                go_roundw
                case rel => exact ⟨k + 1, k, ct, hkn, rfl, rfl, by go_num, by omega, by omega, HX2.out, B8.out⟩
                case measure => simp [intOf]; omega
              · have h1' : decide ((ct : Int) < rr) = false := by simpa using h1
                by_cases h2 : (ct : Int) = rr
                · have h2' : ((ct : Int) == rr) = true := by simpa using h2
                  rw [if_pos (.inr (.inr ⟨h2, by trivial⟩))] at hX
                  have HX2 := Lib.hid hX
                  clear hX
                  go_wp2_with (go_at_call 121; (with_reducible refine (rinside_is hl HM8.out HR.out HO.out hkL HINS.out).mono ?_); rintro e w9 ⟨rfl, hb9⟩; have HM9 := Lib.hid (HM8.out.ext hl hb9); have B9 := Lib.hid (Below.then B8.out hb9); clear hb9)
                  go_roundw
                  case rel => exact ⟨k + 1, k, ct, hkn, rfl, by rw [h2], by go_num, by omega, by omega, HX2.out, B9.out⟩
                  case measure => simp [intOf]; omega
                · have h2' : ((ct : Int) == rr) = false := by simpa using h2
                  rw [if_neg (by rintro (q | q | ⟨q, _⟩); exact h0 q; exact h1 q; exact h2 q)] at hX
                  have HX2 := Lib.hid hX
                  clear hX
                  go_wp2_with fail
                  go_roundw
                  case rel => exact ⟨k + 1, bb, rr, hkn, rfl, rfl, by go_num, by omega, by omega, HX2.out, B8.out⟩
                  case measure => simp [intOf]; omega
    · have hbb : bb = X := by rw [show nL - k = 0 by omega] at hX; exact hX
      subst hbb
      clear hX hMx
      go_wp2
      go_ret
      exact ⟨rfl, HB.out⟩
end Go.Proofs.YtlhnhmimhpcoaaaGreat
