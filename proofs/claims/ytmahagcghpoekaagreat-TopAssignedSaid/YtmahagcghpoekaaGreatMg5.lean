/- The contracts of Blocking, Raised of the reference. The conditions: the tasks read as named. A run in memory, and the machine of the program. The conditions: the run reads as named. append of one element whose block lies behind other new blocks. No condition: a plain lemma. Contracts of the machine's small methods. The conditions: the machine reads as named. slices.Clone at ints; the rest of a row of ints. The conditions: the row reads as named. The contract of the machine's end. The conditions: the machine reads as named. -/
import Derived.Test.YtmahagcghpoekaaGreatMg4
import Derived.Test.YtmahagcghpoekaaGreatMg2
import Derived.Test.YtmahagcghpoekaaGreatMg3
import Derived.Test.YtmahagcghpoekaaGreatMg1
import Derived.BigRegion
import Derived.Deep.RegionHeld3
import Derived.Deep.Cut
import Derived.Lib.SliceRun
import Derived.Laws.OwnMore
import Derived.Deep.RegionWith
import Derived.Deep.DeepCutAuto
namespace Go.Proofs.YtmahagcghpoekaaGreat
open Go.RowKit
set_option linter.unusedSimpArgs false
set_option linter.unusedVariables false
def blkgR (L : List Ta) (t : Int) : Int × Int := if isTk L t then (blockN L t, 0) else (0, 1)
def maxB (L : List Ta) (m : Int) (bs : List P2) : Int := bs.foldl (fun m b => max m (ticksAt L b)) m
theorem maxB_cons (L : List Ta) (m : Int) (b : P2) (bs : List P2) : maxB L m (b :: bs) = maxB L (max m (ticksAt L b)) bs := rfl
/-- what a blocker says about the tasks in memory -/
theorem RdL.blk {w : World} {a : Option Addr} {n : Nat} {L : List Ta} {t : Int} {b : P2} (h : RdL w a n L) (hb : IsBlk L t b) : ∃ (j k : Nat) (g off pb poff : Nat) (pn pc : Nat) (p : P2), b = ((j : Int), (k : Int)) ∧ j < n ∧ k < pn ∧ a = some ⟨g, off, none⟩ ∧ g < w.heap.size ∧ pb < w.heap.size ∧
    w.cell? ⟨g, off + j * 6 + 5, none⟩ = some (.slice (some ⟨pb, poff, none⟩) pn pc) ∧ w.cell? ⟨pb, poff + k * 2, none⟩ = some (.int .i64 p.1) ∧ w.cell? ⟨pb, poff + k * 2 + 1, none⟩ = some (.int .i64 p.2) ∧ ticksAt L b = p.1 ∧ pn ≤ 9223372036854775807 := by
  obtain ⟨j, hj⟩ := Int.eq_ofNat_of_zero_le hb.j0
  obtain ⟨k, hk⟩ := Int.eq_ofNat_of_zero_le hb.k0
  have hjn : j < n := by have := hb.j1; rw [h.length, hj] at this; omega
  obtain ⟨u, g, off, pa, pn, pc, rfl, hg, c0, c1, c2, c3, c4, c5, hp, _, hget, _⟩ := h.at_ j hjn
  have hkn : k < pn := by
    have := hb.k1
    rw [hj, taAt_of hget, hp.length, hk] at this
    omega
  obtain ⟨p, pb, poff, rfl, hpb, e1, e2, hpg, _⟩ := hp.piece k hkn
  refine ⟨j, k, g, off, pb, poff, pn, pc, p, by rw [← hj, ← hk], hjn, hkn, rfl, hg, hpb, c5, e1, e2, ?_, hp.small⟩
  rw [ticksAt, hj, taAt_of hget, hk, Int.toNat_natCast, hpg]; rfl
/-- what Raised gives -/
def raisedR (L : List Ta) (t p : Int) : Int × Int :=
  if isTk L t && inB p 0 (((taAt L t).pcs.length : Int) - 1) then
    (if ((((taAt L t).pcs)[p.toNat]?).getD default).2 < 0 then t else ceilG L ((((taAt L t).pcs)[p.toNat]?).getD default).2, 0)
  else (0, 1)
end Go.Proofs.YtmahagcghpoekaaGreat
namespace Go.Proofs.YtmahagcghpoekaaGreat
open Go.RowKit
set_option linter.unusedSimpArgs false
set_option linter.unusedVariables false
/-- where the parts of a run lie -/
structure RunH where
  tA : Option Addr
  tN : Nat
  tC : Nat
  eA : Option Addr
  eN : Nat
  eC : Nat
  bA : Option Addr
  bN : Nat
  bC : Nat
  sA : Option Addr
  sN : Nat
  sC : Nat
def evAt (evs : List (List P2)) (k : Nat) : List P2 := (evs[k]?).getD []
/-- a slice of lists of pairs -/
structure Evs (w : World) (a : Option Addr) (n : Nat) (evs : List (List P2)) : Prop where
  len : evs.length = n
  sm : n ≤ 9223372036854775807
  at_ : ∀ k, k < n → ∃ (b off : Nat) (ea : Option Addr) (en ec : Nat), a = some ⟨b, off, none⟩ ∧ b < w.heap.size ∧ w.cell? ⟨b, off + k, none⟩ = some (.slice ea en ec) ∧ Rd w ea en 2 ((evAt evs k).map enc2)
theorem Evs.ext {w w' : World} {a : Option Addr} {n : Nat} {evs : List (List P2)} (h : Evs w a n evs) (hb : Below w.heap.size w w') : Evs w' a n evs :=
  ⟨h.len, h.sm, fun k hk => by
    obtain ⟨b, off, ea, en, ec, e, h1, h2, h3⟩ := h.at_ k hk
    exact ⟨b, off, ea, en, ec, e, Nat.lt_of_lt_of_le h1 hb.size, (hb.cell (p := ⟨b, off + k, none⟩) h1).trans h2, h3.ext hb⟩⟩
structure RdRun (w : World) (H : RunH) (R : Rn) : Prop where
  t : RdL w H.tA H.tN R.L
  e : Evs w H.eA H.eN R.ev
  b : Rd w H.bA H.bN 1 (R.bu.map enc1)
  s : Rd w H.sA H.sN 2 (R.sg.map enc2)
theorem RdRun.ext {w w' : World} {H : RunH} {R : Rn} (h : RdRun w H R) (hb : Below w.heap.size w w') : RdRun w' H R := ⟨h.t.ext hb, h.e.ext hb, h.b.ext hb, h.s.ext hb⟩
def encE (e : En) : List Value := [.int .i64 e.m, .int .i64 e.k, .int .i64 e.w, .int .i64 e.a, .int .i64 e.b]
theorem encE_len (e : En) : (encE e).length = 5 := rfl
def encJ (j : Jb) : List Value := [.int .i64 j.p, .int .i64 j.t, .int .i64 j.d, .bool j.s]
theorem EEn : Elt Tryz.prog 62 69 5 40 := Elt.mk' (z := .agg #[.int .i64 0, .int .i64 0, .int .i64 0, .int .i64 0, .int .i64 0]) Tryz.underlying62 (by kernel_rfl) rfl (by decide)
/-- the machine's boxes -/
structure MPar where
  w0 : World
  H : RunH
  R : Rn
  K : Nat
  p : Nat
  W : Nat
  J : Nat
  rb : Nat
  O : List Int
structure MLay (M : MPar) : Prop where
  p : M.w0.heap.size ≤ M.p ∧ M.p < M.K
  W : M.w0.heap.size ≤ M.W ∧ M.W < M.K
  J : M.w0.heap.size ≤ M.J ∧ M.J < M.K
  r : M.w0.heap.size ≤ M.rb ∧ M.rb < M.K
  ne : M.p ≠ M.W ∧ M.p ≠ M.J ∧ M.p ≠ M.rb ∧ M.W ≠ M.J ∧ M.W ≠ M.rb ∧ M.J ≠ M.rb
structure Mach (M : MPar) (w : World) (s : Ms) : Prop where
  c0 : w.cell? ⟨M.p, 0, none⟩ = some (.slice M.H.tA M.H.tN M.H.tC)
  c1 : w.cell? ⟨M.p, 1, none⟩ = some (.int .i64 M.R.fr)
  c2 : w.cell? ⟨M.p, 2, none⟩ = some (.int .i64 M.R.sl)
  c3 : w.cell? ⟨M.p, 3, none⟩ = some (.slice M.H.eA M.H.eN M.H.eC)
  c4 : w.cell? ⟨M.p, 4, none⟩ = some (.slice M.H.bA M.H.bN M.H.bC)
  c5 : w.cell? ⟨M.p, 5, none⟩ = some (.slice M.H.sA M.H.sN M.H.sC)
  c6 : w.cell? ⟨M.p, 6, none⟩ = some (.slice (some ⟨M.rb, 0, none⟩) M.R.L.length M.R.L.length)
  c7 : w.cell? ⟨M.p, 7, none⟩ = some (.slice (some ⟨M.W, 0, none⟩) M.R.L.length M.R.L.length)
  c8 : w.cell? ⟨M.p, 8, none⟩ = some (.slice (some ⟨M.J, 0, none⟩) M.R.L.length M.R.L.length)
  fp : ∀ j, w.frozen? ⟨M.p, j, none⟩ = false
  en : ∃ (a : Option Addr) (m c : Nat), w.cell? ⟨M.p, 9, none⟩ = some (.slice a m c) ∧ w.ownsRow M.K 69 5 (.slice a m c) m (s.o.flatMap encE)
  rk : ∀ i, i < M.R.L.length → ∃ x, M.O[i]? = some x ∧ w.cell? ⟨M.rb, i, none⟩ = some (.int .i64 x)
  fr : ∀ j, w.frozen? ⟨M.rb, j, none⟩ = false
  qu : ∃ h : Nat → Hdr, (∀ i, i < M.R.L.length → w.cell? ⟨M.W, i, none⟩ = some (sl (h i))) ∧ IRows M.K w M.R.L.length h s.qa
  fw : ∀ j, w.frozen? ⟨M.W, j, none⟩ = false
  jb : ∀ i, i < M.R.L.length → ∀ j, j < 4 → w.cell? ⟨M.J, i * 4 + j, none⟩ = (encJ (s.ja i))[j]?
  fj : ∀ j, w.frozen? ⟨M.J, j, none⟩ = false
  kl : M.K ≤ w.heap.size
  ql : s.q.length = M.R.L.length
  jl : s.j.length = M.R.L.length
  lb : Below M.w0.heap.size M.w0 w
theorem addr_neS {b b' i j : Nat} (h : b ≠ b' ∨ i ≠ j) : (⟨b, i, none⟩ : Addr) ≠ ⟨b', j, none⟩ := by
  intro q; rcases h with h | h
  · exact h (congrArg Addr.block q)
  · exact h (congrArg Addr.off q)
section
variable {M : MPar} {w w' : World} {s s' : Ms}
/-- all but the entries and the queues -/
theorem Mach.keep (h : Mach M w s) (hl : MLay M) (hb : Below M.K w w')
    (hen : ∃ (a : Option Addr) (m c : Nat), w'.cell? ⟨M.p, 9, none⟩ = some (.slice a m c) ∧ w'.ownsRow M.K 69 5 (.slice a m c) m (s'.o.flatMap encE))
    (hq : ∃ h : Nat → Hdr, (∀ i, i < M.R.L.length → w'.cell? ⟨M.W, i, none⟩ = some (sl (h i))) ∧ IRows M.K w' M.R.L.length h s'.qa) (hj : s'.j = s.j) (hql : s'.q.length = s.q.length) : Mach M w' s' := by
  have cp : ∀ j, w'.cell? ⟨M.p, j, none⟩ = w.cell? ⟨M.p, j, none⟩ := fun j => hb.cell (p := ⟨M.p, j, none⟩) hl.p.2
  have hja : ∀ i, s'.ja i = s.ja i := fun i => by unfold Ms.ja; rw [hj]
  exact ⟨(cp 0).trans h.c0, (cp 1).trans h.c1, (cp 2).trans h.c2, (cp 3).trans h.c3, (cp 4).trans h.c4, (cp 5).trans h.c5, (cp 6).trans h.c6, (cp 7).trans h.c7, (cp 8).trans h.c8,
    fun j => (hb.frozen (p := ⟨M.p, j, none⟩) hl.p.2).trans (h.fp j), hen,
    fun i hi => by obtain ⟨x, h1, h2⟩ := h.rk i hi; exact ⟨x, h1, (hb.cell (p := ⟨M.rb, i, none⟩) hl.r.2).trans h2⟩,
    fun j => (hb.frozen (p := ⟨M.rb, j, none⟩) hl.r.2).trans (h.fr j), hq, fun j => (hb.frozen (p := ⟨M.W, j, none⟩) hl.W.2).trans (h.fw j),
    fun i hi j hj4 => by rw [hja]; exact (hb.cell (p := ⟨M.J, i * 4 + j, none⟩) hl.J.2).trans (h.jb i hi j hj4), fun j => (hb.frozen (p := ⟨M.J, j, none⟩) hl.J.2).trans (h.fj j),
    Nat.le_trans h.kl hb.size, hql.trans h.ql, by rw [hj]; exact h.jl, h.lb.trans (hb.mono (Nat.le_trans hl.p.1 (Nat.le_of_lt hl.p.2)))⟩
theorem Mach.ext (h : Mach M w s) (hl : MLay M) (hb : Below w.heap.size w w') : Mach M w' s := by
  have hk := h.kl
  have hp := hl.p
  have hW := hl.W
  refine h.keep hl (hb.mono hk) ?_ ?_ rfl rfl
  · obtain ⟨a, m, c, h1, h2⟩ := h.en
    exact ⟨a, m, c, (hb.cell (p := ⟨M.p, 9, none⟩) (by simp only []; omega)).trans h1, owns_ext h2 hb⟩
  · obtain ⟨g, h1, h2⟩ := h.qu
    exact ⟨g, fun i hi => (hb.cell (p := ⟨M.W, i, none⟩) (by simp only []; omega)).trans (h1 i hi), h2.ext hb⟩
/-- an entry has been laid -/
theorem Mach.entry (h : Mach M w s) (hl : MLay M) {a a' : Option Addr} {m c c' : Nat} {e : En} {o : Obj} (h1 : w.cell? ⟨M.p, 9, none⟩ = some (.slice a m c)) (h2 : w.ownsRow M.K 69 5 (.slice a m c) m (s.o.flatMap encE))
    (hown : w'.ownsRow M.K 69 5 (.slice a' (m + 1) c') (m + 1) (s.o.flatMap encE ++ encE e)) (hg : (w.alloc o).grownBy w' (Value.slice a m c).ownBlock) :
    Mach M (w'.setCell ⟨M.p, 9, none⟩ (.slice a' (m + 1) c')) (s.wr e) := by
  have hk := h.kl
  have hp := hl.p
  have hb : Below M.K w w' := ((Below.refl M.K w).alloc hk o).trans (grown_below (h2.alloc o) hg (by rw [World.size_alloc]; omega))
  have hq : ∃ g : Nat → Hdr, (∀ i, i < M.R.L.length → w'.cell? ⟨M.W, i, none⟩ = some (sl (g i))) ∧ IRows M.K w' M.R.L.length g s.qa := by
    obtain ⟨g, g1, g2⟩ := h.qu
    exact ⟨g, fun i hi => (hb.cell (p := ⟨M.W, i, none⟩) hl.W.2).trans (g1 i hi), ⟨fun i hi => owns_kept ((g2.own i hi).alloc o) (h2.alloc o) (by decide) hg, g2.apart⟩⟩
  have h9 : w'.cell? ⟨M.p, 9, none⟩ = some (.slice a m c) := (hb.cell (p := ⟨M.p, 9, none⟩) hp.2).trans h1
  have cp : ∀ j, j ≠ 9 → (w'.setCell ⟨M.p, 9, none⟩ (.slice a' (m + 1) c')).cell? ⟨M.p, j, none⟩ = w.cell? ⟨M.p, j, none⟩ := fun j hj => (World.cell?_setCell_other _ _ _ _ (addr_neS (.inr (fun q => hj q.symm)))).trans (hb.cell (p := ⟨M.p, j, none⟩) hp.2)
  have co : ∀ b j, b ≠ M.p → (w'.setCell ⟨M.p, 9, none⟩ (.slice a' (m + 1) c')).cell? ⟨b, j, none⟩ = w'.cell? ⟨b, j, none⟩ := fun b j hb => World.cell?_setCell_other _ _ _ _ (addr_neS (.inl (fun q => hb q.symm)))
  obtain ⟨n1, n2, n3, n4, n5, n6⟩ := hl.ne
  refine ⟨(cp 0 (by decide)).trans h.c0, (cp 1 (by decide)).trans h.c1, (cp 2 (by decide)).trans h.c2, (cp 3 (by decide)).trans h.c3, (cp 4 (by decide)).trans h.c4, (cp 5 (by decide)).trans h.c5, (cp 6 (by decide)).trans h.c6, (cp 7 (by decide)).trans h.c7, (cp 8 (by decide)).trans h.c8,
    fun j => by rw [World.frozen?_setCell]; exact (hb.frozen (p := ⟨M.p, j, none⟩) hp.2).trans (h.fp j), ⟨a', m + 1, c', World.cell?_setCell_same _ _ _ h9, ?_⟩,
    fun i hi => ?_, fun j => by rw [World.frozen?_setCell]; exact (hb.frozen (p := ⟨M.rb, j, none⟩) hl.r.2).trans (h.fr j), ?_, fun j => by rw [World.frozen?_setCell]; exact (hb.frozen (p := ⟨M.W, j, none⟩) hl.W.2).trans (h.fw j),
    fun i hi j hj4 => ?_, fun j => by rw [World.frozen?_setCell]; exact (hb.frozen (p := ⟨M.J, j, none⟩) hl.J.2).trans (h.fj j), by have := hb.size; simp; omega, h.ql, h.jl, ?_⟩
  · have : (s.wr e).o.flatMap encE = s.o.flatMap encE ++ encE e := by simp [Ms.wr]
    rw [this]
    exact owns_far hown hp.2 _
  · obtain ⟨x, g1, g2⟩ := h.rk i hi
    exact ⟨x, g1, (co M.rb i (fun q => n3 q.symm)).trans ((hb.cell (p := ⟨M.rb, i, none⟩) hl.r.2).trans g2)⟩
  · obtain ⟨g, g1, g2⟩ := hq
    exact ⟨g, fun i hi => (co M.W i (fun q => n1 q.symm)).trans (g1 i hi), g2.far hp.2 _⟩
  · exact (co M.J _ (fun q => n2 q.symm)).trans ((hb.cell (p := ⟨M.J, i * 4 + j, none⟩) hl.J.2).trans (h.jb i hi j hj4))
  · exact (h.lb.trans (hb.mono (by omega))).setCell (p := ⟨M.p, 9, none⟩) hp.1 _
/-- a cell of a job has been laid -/
theorem Mach.job (h : Mach M w s) (hl : MLay M) {i : Nat} (hi : i < M.R.L.length) {j : Nat} (hj : j < 4) {v : Value} {b : Jb} (he : encJ b = (encJ (s.ja i)).set j v) :
    Mach M (w.setCell ⟨M.J, i * 4 + j, none⟩ v) { s with j := s.j.set i b } := by
  have hk := h.kl
  obtain ⟨n1, n2, n3, n4, n5, n6⟩ := hl.ne
  have co : ∀ b k, b ≠ M.J → (w.setCell ⟨M.J, i * 4 + j, none⟩ v).cell? ⟨b, k, none⟩ = w.cell? ⟨b, k, none⟩ := fun b k hb => World.cell?_setCell_other _ _ _ _ (addr_neS (.inl (fun q => hb q.symm)))
  have cp := fun k => co M.p k n2
  refine ⟨(cp 0).trans h.c0, (cp 1).trans h.c1, (cp 2).trans h.c2, (cp 3).trans h.c3, (cp 4).trans h.c4, (cp 5).trans h.c5, (cp 6).trans h.c6, (cp 7).trans h.c7, (cp 8).trans h.c8,
    fun k => by rw [World.frozen?_setCell]; exact h.fp k, ?_, fun k hk => ?_, fun k => by rw [World.frozen?_setCell]; exact h.fr k, ?_, fun k => by rw [World.frozen?_setCell]; exact h.fw k, fun k hk k' hk4 => ?_, fun k => by rw [World.frozen?_setCell]; exact h.fj k,
    by simpa using hk, h.ql, by simpa using h.jl, h.lb.setCell (p := ⟨M.J, i * 4 + j, none⟩) hl.J.1 _⟩
  · obtain ⟨a, m, c, g1, g2⟩ := h.en
    exact ⟨a, m, c, (cp 9).trans g1, owns_far g2 hl.J.2 _⟩
  · obtain ⟨x, g1, g2⟩ := h.rk k hk
    exact ⟨x, g1, (co M.rb k (fun q => n6 q.symm)).trans g2⟩
  · obtain ⟨g, g1, g2⟩ := h.qu
    exact ⟨g, fun k hk => (co M.W k n4).trans (g1 k hk), g2.far hl.J.2 _⟩
  · rw [ja_set (by rw [h.jl]; exact hi)]
    by_cases e : k = i
    · subst e
      rw [if_pos rfl, he, List.getElem?_set]
      by_cases e2 : j = k'
      · subst e2
        rw [if_pos rfl, if_pos (by simpa [encJ] using hj)]
        have := h.jb k hk j hj
        have hlt : j < (encJ (s.ja k)).length := by simpa [encJ] using hj
        rw [List.getElem?_eq_getElem hlt] at this
        exact World.cell?_setCell_same _ _ _ this
      · rw [if_neg e2]
        exact (World.cell?_setCell_other _ _ _ _ (addr_neS (.inr (by omega)))).trans (h.jb k hk k' hk4)
    · rw [if_neg e]
      exact (World.cell?_setCell_other _ _ _ _ (addr_neS (.inr (by omega)))).trans (h.jb k hk k' hk4)
/-- a queue has been laid anew: the row i, its header -/
theorem Mach.queue (h : Mach M w s) (hl : MLay M) {i : Nat} (hi : i < M.R.L.length) {g : Nat → Hdr} {d : Hdr} {q : List Int} (hb : Below M.K w w')
    (hen : ∀ (a : Option Addr) (m c : Nat), w.ownsRow M.K 69 5 (.slice a m c) m (s.o.flatMap encE) → w'.ownsRow M.K 69 5 (.slice a m c) m (s.o.flatMap encE))
    (hg : ∀ k, k < M.R.L.length → w.cell? ⟨M.W, k, none⟩ = some (sl (g k))) (hr : IRows M.K w' M.R.L.length (updF g i d) (updF s.qa i q)) :
    Mach M (w'.setCell ⟨M.W, i, none⟩ (sl d)) { s with q := s.q.set i q } := by
  have hk := h.kl
  have hp := hl.p
  obtain ⟨n1, n2, n3, n4, n5, n6⟩ := hl.ne
  have co : ∀ b k, b ≠ M.W → b < M.K → (w'.setCell ⟨M.W, i, none⟩ (sl d)).cell? ⟨b, k, none⟩ = w.cell? ⟨b, k, none⟩ := fun b k hbn hbk => (World.cell?_setCell_other _ _ _ _ (addr_neS (.inl (fun q => hbn q.symm)))).trans (hb.cell (p := ⟨b, k, none⟩) hbk)
  have cp := fun k => co M.p k n1 hp.2
  refine ⟨(cp 0).trans h.c0, (cp 1).trans h.c1, (cp 2).trans h.c2, (cp 3).trans h.c3, (cp 4).trans h.c4, (cp 5).trans h.c5, (cp 6).trans h.c6, (cp 7).trans h.c7, (cp 8).trans h.c8,
    fun k => by rw [World.frozen?_setCell]; exact (hb.frozen (p := ⟨M.p, k, none⟩) hp.2).trans (h.fp k), ?_, fun k hk => ?_, fun k => by rw [World.frozen?_setCell]; exact (hb.frozen (p := ⟨M.rb, k, none⟩) hl.r.2).trans (h.fr k), ?_,
    fun k => by rw [World.frozen?_setCell]; exact (hb.frozen (p := ⟨M.W, k, none⟩) hl.W.2).trans (h.fw k), fun k hk k' hk4 => (co M.J _ (fun q => n4 q.symm) hl.J.2).trans (h.jb k hk k' hk4), fun k => by rw [World.frozen?_setCell]; exact (hb.frozen (p := ⟨M.J, k, none⟩) hl.J.2).trans (h.fj k),
    by have := hb.size; simp; omega, by simpa using h.ql, h.jl, (h.lb.trans (hb.mono (by omega))).setCell (p := ⟨M.W, i, none⟩) hl.W.1 _⟩
  · obtain ⟨a, m, c, g1, g2⟩ := h.en
    exact ⟨a, m, c, (cp 9).trans g1, owns_far (hen a m c g2) hl.W.2 _⟩
  · obtain ⟨x, g1, g2⟩ := h.rk k hk
    exact ⟨x, g1, (co M.rb k (fun q => n5 q.symm) hl.r.2).trans g2⟩
  · refine ⟨updF g i d, fun k hk => ?_, ?_⟩
    · by_cases e : k = i
      · subst e
        rw [updF_same]
        exact World.cell?_setCell_same _ _ _ ((hb.cell (p := ⟨M.W, k, none⟩) hl.W.2).trans (hg k hk))
      · rw [updF_other _ _ e]
        exact (World.cell?_setCell_other _ _ _ _ (addr_neS (.inr (fun q => e q.symm)))).trans ((hb.cell (p := ⟨M.W, k, none⟩) hl.W.2).trans (hg k hk))
    · have e : Ms.qa { s with q := s.q.set i q } = updF s.qa i q := by
        funext k
        rw [qa_set (q := s.q) (by rw [h.ql]; exact hi)]
        rfl
      rw [e]
      exact hr.far hl.W.2 _
end
end Go.Proofs.YtmahagcghpoekaaGreat
namespace Go.Proofs.YtmahagcghpoekaaGreat
open Go.RowKit
theorem wpList_pushM {P : Program} {ops : Array Oper} {rest : List Oper} {o : Oper} {a : Act} {Q : Exit → Act → World → Prop} {w : World} {T : TypeId} {arr : Array Value} {N : Nat} (hN : N = w.heap.size) (hgd : o.guard = none) (s x : Operand) (t : TypeId)
    (ho : o.op = .call { callee := .builtin .append, args := #[s, x], argTypes := #[t, t] }) {e k bytes B n c : Nat} (E : Elt P t e k bytes) {v : Value} {xs : List Value}
    (hs : a.eval s = v) (hown : w.ownsRow B e k v n xs) (hx : a.eval x = .slice (some ⟨N, 0, none⟩) 1 c) (harr : arr.size = k) (h1 : ∀ u ∈ arr.toList, u.oneCell' = true)
    (hn : n ≤ 100000000) (hby : bytes ≤ 1000) (hB : B ≤ w.heap.size)
    (h : ∀ a' c' w', w'.ownsRow B e k (.slice a' (n + 1) c') (n + 1) (xs ++ arr.toList) → (w.alloc (.cells arr T)).grownBy w' v.ownBlock → wpList P ops Q rest (a.put o.dst (.slice a' (n + 1) c')) w') :
    wpList P ops Q (o :: rest) a (w.alloc (.cells arr T)) := by
  subst hN
  obtain ⟨i, z, h2, h3, h4, h5, h6⟩ := E.hi
  refine wpList_append_own (w.alloc (.cells arr T)) hgd s x t ho B e i z k bytes E.ht h2 h3 h4 h5 h6 E.hk v n xs hs (hown.alloc _) ⟨w.heap.size, 0, none⟩ 1 c arr.toList hx (by simpa using harr) ?_ h1 (by unfold maxLen; omega) ?_ (by simp; omega) ?_
  · intro j u hj
    have : (w.alloc (.cells arr T)).cell? ⟨w.heap.size, j, none⟩ = arr[j]? := World.cell?_alloc_new w arr T j
    have e : (⟨w.heap.size, 0, none⟩ : Addr).add j = ⟨w.heap.size, j, none⟩ := by unfold Addr.add; split <;> simp_all
    rw [e, this]; simpa using hj
  · have : (n + 1) * bytes ≤ 100000001 * 1000 := Nat.mul_le_mul (by omega) hby
    omega
  · intro v' w' hown' hg _
    obtain ⟨hl, h7⟩ := hown'
    rcases h7 with ⟨_, h8⟩ | ⟨g, cap, cur, rfl, h9⟩
    · omega
    · exact h _ _ _ ⟨hl, .inr ⟨g, cap, cur, rfl, h9⟩⟩ hg
end Go.Proofs.YtmahagcghpoekaaGreat
namespace Go.Proofs.YtmahagcghpoekaaGreat
open Go.RowKit
set_option linter.unusedSimpArgs false
set_option linter.unusedVariables false
theorem Mach.int {M : MPar} {w : World} {s : Ms} (h : Mach M w s) {R : Rn} (hr : RdRun M.w0 M.H R) : RdRun w M.H R := hr.ext h.lb
set_option maxRecDepth 10000 in
set_option maxHeartbeats 1000000 in
theorem write_any {M : MPar} {w : World} {s : Ms} (hl : MLay M) (hM : Mach M w s) (ho : s.o.length ≤ 2000000) (m k wh a b : Int) :
    Calls Tryz.prog 64 #[.pointer (some ⟨M.p, 0, none⟩), .int .i64 m, .int .i64 k, .int .i64 wh, .int .i64 a, .int .i64 b] w fun e w' => e = .returned (.tuple #[]) ∧ Mach M w' (s.wr ⟨m, k, wh, a, b⟩) := by
  obtain ⟨ea, en, ec, h1, h2⟩ := hM.en
  have hlen : en = s.o.length := by
    have := (Rd.of_owns encE_len (by decide) h2).length; simpa using this.symm
  have H2 := Lib.hid h2; have H1 := Lib.hid h1; have HM := Lib.hid hM
  have e5 := EEn
  have hk := hM.kl
  have hpK := hl.p.2
  have hf := hM.fp 9
  have hen : en ≤ 2000000 := by omega
  clear hM h2 hlen
  go_enter Tryz.func64, Tryz.ntmps64
  go_wp2_with (at_builtin; refine wpList_pushM (N := w.heap.size) (v := .slice ea en ec) (by simp) rfl _ _ _ rfl e5 rfl H2.out rfl rfl (by intro u hu; simp at hu; rcases hu with rfl | rfl | rfl | rfl | rfl <;> rfl) (by omega) (by decide) hk ?_; intro a3 c3 w3 hown3 hg3; have hb3 : Below M.K w w3 := ((Below.refl M.K w).alloc hk _).trans (grown_below (H2.out.alloc _) hg3 (by rw [World.size_alloc]; omega)); have q9 := (hb3.cell (p := ⟨M.p, 9, none⟩) hpK).trans h1; have f9 := (hb3.frozen (p := ⟨M.p, 9, none⟩) hpK).trans hf; have HO3 := Lib.hid hown3; have HG3 := Lib.hid hg3; clear hown3 hg3 hb3)
  go_end0
  exact ⟨rfl, HM.out.entry hl H1.out H2.out HO3.out HG3.out⟩
def rdB (s : Ms) (i : Nat) : Bool := !(s.qa i).isEmpty
theorem rdB_iff {s : Ms} {i : Nat} : rdB s i = true ↔ s.qa i ≠ [] := by unfold rdB; simp
theorem rdB_no {s : Ms} {i : Nat} : rdB s i = false ↔ s.qa i = [] := by unfold rdB; simp
theorem ready_is {M : MPar} {w : World} {s : Ms} {i : Nat} {b : Bool} (hM : Mach M w s) (hi : i < M.R.L.length) (h : rdB s i = b) :
    Calls Tryz.prog 89 #[.pointer (some ⟨M.p, 0, none⟩), .int .i64 i] w fun e w' => e = .returned (.bool b) ∧ w = w' := by
  obtain ⟨g, g1, g2⟩ := hM.qu
  have c7 := hM.c7
  have c := g1 i hi
  have hlen := g2.len hi
  have hb : decide (0 < ((g i).n : Int)) = b := by
    rw [← h, ← hlen]; unfold rdB
    cases s.qa i <;> simp <;> omega
  have hb2 : decide (0 < (g i).n) = b := by rw [← hb]; simp
  clear hM g1 g2 hlen h
  unfold sl at c
  go_enter Tryz.func89, Tryz.ntmps89
  go_wp2
  go_ret
  exact ⟨rfl, rfl⟩
theorem event_any {M : MPar} {w : World} {s : Ms} {i : Nat} (hM : Mach M w s) (hi : i < M.R.L.length) (h : s.qa i ≠ []) :
    Calls Tryz.prog 93 #[.pointer (some ⟨M.p, 0, none⟩), .int .i64 i] w fun e w' => e = .returned (.int .i64 (s.hd i)) ∧ w = w' := by
  obtain ⟨g, g1, g2⟩ := hM.qu
  have c7 := hM.c7
  have c := g1 i hi
  have hlen := g2.len hi
  have hn : 0 < (g i).n := by
    rw [← hlen]
    exact List.length_pos_iff.2 h
  have hg := g2.own i hi
  unfold sl at hg c
  obtain ⟨x, b, off, e, hb, hc, hx⟩ := (ownsI_rd hg).idx 0 hn
  have hhd : s.hd i = x := by
    unfold Ms.hd
    rw [List.headD_eq_head?_getD, List.head?_eq_getElem?, hx]; rfl
  rw [hhd]
  rw [e] at c
  rw [Nat.add_zero] at hc
  have hn' : (0 : Int) < ((g i).n : Int) := by omega
  clear hM g1 g2 hlen hg hx hhd h e
  go_enter Tryz.func93, Tryz.ntmps93
  go_wp2
  go_ret
  exact ⟨rfl, rfl⟩
/-- the cells of a job, of its task -/
theorem Mach.jcells {M : MPar} {w : World} {s : Ms} (h : Mach M w s) {i : Nat} (hi : i < M.R.L.length) :
    w.cell? ⟨M.J, i * 4, none⟩ = some (.int .i64 ((s.ja i).p : Int)) ∧ w.cell? ⟨M.J, i * 4 + 1, none⟩ = some (.int .i64 ((s.ja i).t : Int)) ∧ w.cell? ⟨M.J, i * 4 + 2, none⟩ = some (.int .i64 ((s.ja i).d : Int)) ∧ w.cell? ⟨M.J, i * 4 + 3, none⟩ = some (.bool (s.ja i).s) :=
  ⟨h.jb i hi 0 (by decide), h.jb i hi 1 (by decide), h.jb i hi 2 (by decide), h.jb i hi 3 (by decide)⟩
theorem RdL.pcell {w : World} {a : Option Addr} {n : Nat} {L : List Ta} (h : RdL w a n L) {i p : Nat} (hi : i < L.length) (hp : p < (taAt L i).pcs.length) :
    ∃ (b off pb po pn pc : Nat), a = some ⟨b, off, none⟩ ∧ b < w.heap.size ∧ pb < w.heap.size ∧ p < pn ∧ pn = (taAt L i).pcs.length ∧ w.cell? ⟨b, off + i * 6 + 5, none⟩ = some (.slice (some ⟨pb, po, none⟩) pn pc) ∧
      w.cell? ⟨pb, po + p * 2, none⟩ = some (.int .i64 (tkA L i p)) ∧ w.cell? ⟨pb, po + p * 2 + 1, none⟩ = some (.int .i64 (lkA L i p)) := by
  obtain ⟨t, b, off, pa, pn, pc, rfl, hb, _, _, _, _, _, c5, hp2, _, hg, _⟩ := h.at_ i (by rw [← h.length]; exact hi)
  have e := taAt_of hg
  rw [e] at hp
  have hpn : pn = t.pcs.length := hp2.length.symm
  obtain ⟨v, b1, off1, rfl, hb1, e1, e2, hpg, _⟩ := hp2.piece p (by omega)
  refine ⟨b, off, b1, off1, pn, pc, rfl, hb, hb1, by omega, by rw [e]; exact hpn, c5, ?_, ?_⟩
  · rw [e1]; unfold tkA pcA; rw [e, hpg]; rfl
  · rw [e2]; unfold lkA pcA; rw [e, hpg]; rfl
set_option maxRecDepth 10000 in
set_option maxHeartbeats 1000000 in
theorem locked_is {M : MPar} {w : World} {s : Ms} {i : Nat} {B : Bool} (hM : Mach M w s) (hR : RdRun M.w0 M.H M.R) (hO : MOk M.R s) (hi : i < M.R.L.length) (h : insB M.R.L s i = B) :
    Calls Tryz.prog 90 #[.pointer (some ⟨M.p, 0, none⟩), .int .i64 i] w fun e w' => e = .returned (.bool B) ∧ Below w.heap.size w w' := by
  obtain ⟨b, off, pb, po, pn, pc, e1, hb, hpb, hpn, hpl, k5, k0, k1⟩ := (hM.int hR).t.pcell hi (hO.pc i hi)
  have htn := (hM.int hR).t.length
  obtain ⟨j0, j1, j2, j3⟩ := hM.jcells hi
  have c0 := hM.c0
  have c8 := hM.c8
  rw [e1] at c0
  have hpz := World.block_lt_of_cell? w _ c0
  simp only [] at hpz
  have hiN : i < M.H.tN := by omega
  have hB : (decide (0 < (s.ja i).t) && decide (0 ≤ lkA M.R.L i (s.ja i).p)) = B := h
  obtain ⟨jp, hjp⟩ : ∃ x, (s.ja i).p = x := ⟨_, rfl⟩
  obtain ⟨jt, hjt⟩ : ∃ x, (s.ja i).t = x := ⟨_, rfl⟩
  obtain ⟨jd, hjd⟩ : ∃ x, (s.ja i).d = x := ⟨_, rfl⟩
  obtain ⟨js, hjs⟩ : ∃ x, (s.ja i).s = x := ⟨_, rfl⟩
  rw [hjp] at j0 k1 hpn hB
  rw [hjt] at j1 hB
  rw [hjd] at j2
  rw [hjs] at j3
  obtain ⟨lk, hlk⟩ : ∃ x, lkA M.R.L i jp = x := ⟨_, rfl⟩
  rw [hlk] at k1 hB
  obtain ⟨nL, hnL⟩ : ∃ x, M.R.L.length = x := ⟨_, rfl⟩
  rw [hnL] at c8 hi
  clear hM hR hO htn h hjp hjt hjd hjs hlk hnL k0 hpl
  by_cases q1 : 0 < jt
  · have q1' : decide (0 < (jt : Int)) = true := by simpa using q1
    have q1'' : decide (0 < jt) = true := by simpa using q1
    have q2 : decide (0 ≤ lk) = B := by rw [q1''] at hB; simpa using hB
    clear hB
    go_enter Tryz.func90, Tryz.ntmps90
    go_wp2_with (refine wp_region_later_lit (by kernel_rfl) (by kernel_rfl) ?_; (repeat (go_big_quiet_step (fail))); refine wpQuiet_nil ?_; intro w1 hb1)
    go_ret
    exact ⟨rfl, Below.then (by (repeat' (first | (with_reducible exact Below.refl _ _) | (with_reducible assumption) | (with_reducible refine Below.alloc ?_ ?_ _) | (with_reducible refine Below.drew ?_) | (with_reducible refine Below.draws ?_ _) | (with_reducible refine Below.setCell ?_ ?_ _) | (refine Below.then ?_ (by with_reducible assumption)) | go_size))) hb1⟩
  · have q1' : decide (0 < (jt : Int)) = false := by simpa using q1
    have q1'' : decide (0 < jt) = false := by simpa using q1
    obtain rfl : B = false := by rw [q1''] at hB; simpa using hB.symm
    clear hB
    go_enter Tryz.func90, Tryz.ntmps90
    go_wp2_with (refine wp_region_later_lit (by kernel_rfl) (by kernel_rfl) ?_; (repeat (go_big_quiet_step (fail))); refine wpQuiet_nil ?_; intro w1 hb1)
    go_ret
    exact ⟨rfl, Below.then (by (repeat' (first | (with_reducible exact Below.refl _ _) | (with_reducible assumption) | (with_reducible refine Below.alloc ?_ ?_ _) | (with_reducible refine Below.drew ?_) | (with_reducible refine Below.draws ?_ _) | (with_reducible refine Below.setCell ?_ ?_ _) | (refine Below.then ?_ (by with_reducible assumption)) | go_size))) hb1⟩
end Go.Proofs.YtmahagcghpoekaaGreat
namespace Go.Proofs.YtmahagcghpoekaaGreat
open Go.RowKit
set_option linter.unusedSimpArgs false
set_option linter.unusedVariables false
theorem cloneI_any (a : Option Addr) (n c : Nat) (xs : List Int) (w : World) (hn : n ≤ 1000) (hR : Rd w a n 1 (xs.map enc1)) (h0 : n = 0 → (a = none ∧ c = 0) ∨ ∃ ad, a = some ad) :
    Calls Tryz.prog 36 #[.slice a n c] w (OutN w.heap.size n 3 1 w (xs.flatMap enc1)) := by
  have hl := hR.length
  rcases a with _ | ad
  · obtain rfl : n = 0 := by
      rcases Nat.eq_zero_or_pos n with q | q
      · exact q
      · obtain ⟨b, off, q2, _⟩ := hR.at_ q; simp at q2
    rcases h0 rfl with ⟨_, rfl⟩ | ⟨ad, q⟩
    · obtain rfl : xs = [] := List.length_eq_zero_iff.1 hl
      have heq := Lib.run_eql_slice_nil (P := Tryz.prog) w 26 3 none 0 0 0 0 Tryz.underlying26
      go_enter Tryz.func36, Tryz.ntmps36
      go_wp2
      go_ret
      exact ⟨_, _, rfl, World.ownsRow_nil _ _ _ _, Below.refl _ _⟩
    · simp at q
  · have HR := Lib.hid hR
    have e1 := E1
    have HOW : Hid ((w.alloc (.cells #[] 3)).ownsRow w.heap.size 3 1 (.slice (some ⟨w.heap.size, 0, none⟩) 0 0) 0 []) := Lib.hid (World.ownsRow_lit w #[] 0 (Nat.le_refl _) (by decide) rfl)
    have heq := Lib.run_eql_slice_nil (P := Tryz.prog) w 26 3 (some ad) n c 0 0 Tryz.underlying26
    clear hR hl h0
    go_enter Tryz.func36, Tryz.ntmps36
    go_wp2_with (at_builtin; refine wpList_pushAll (B := w.heap.size) (n := 0) (xs := []) rfl _ _ _ rfl e1 enc1_len enc1_one rfl HOW.out rfl (HR.out.ext (by (repeat' (first | (with_reducible exact Below.refl _ _) | (with_reducible assumption) | (with_reducible refine Below.alloc ?_ ?_ _) | (with_reducible refine Below.drew ?_) | (with_reducible refine Below.draws ?_ _) | (with_reducible refine Below.setCell ?_ ?_ _) | (refine Below.then ?_ (by with_reducible assumption)) | go_size)))) (fun _ => .inr ⟨_, rfl⟩) (by omega) (by decide) (by simp) ?_; intro v2 w2 hown2 hv2 hb2)
    rw [Nat.zero_add, List.nil_append] at hown2
    obtain ⟨a', c', rfl⟩ := hv2
    rw [Nat.zero_add] at hown2 ⊢
    go_ret
    exact ⟨_, _, rfl, hown2, Below.trans (by (repeat' (first | (with_reducible exact Below.refl _ _) | (with_reducible assumption) | (with_reducible refine Below.alloc ?_ ?_ _) | (with_reducible refine Below.drew ?_) | (with_reducible refine Below.draws ?_ _) | (with_reducible refine Below.setCell ?_ ?_ _) | (refine Below.then ?_ (by with_reducible assumption)) | go_size))) hb2⟩
theorem Rd.dropK {w : World} {b off n k t : Nat} {α : Type} {f : α → List Value} {xs : List α} (h : Rd w (some ⟨b, off, none⟩) n k (xs.map f)) (ht : t ≤ n) : Rd w (some ⟨b, off + t * k, none⟩) (n - t) k ((xs.drop t).map f) := by
  have hl := h.length
  refine ⟨by simp; omega, Nat.le_trans (Nat.sub_le _ _) h.small, fun h0 => ?_⟩
  obtain ⟨b', off', e, hb, hc⟩ := h.at_ (by omega)
  simp at e
  obtain ⟨rfl, rfl⟩ := e
  refine ⟨b, off + t * k, rfl, hb, fun i hi j hj => ?_⟩
  have hi' : i < xs.length - t := by simpa using hi
  have := hc (t + i) (by simp; omega) j hj
  rw [show off + t * k + i * k + j = off + (t + i) * k + j by rw [Nat.add_mul]; omega, this]
  simp
/-- l[1:] -/
theorem slice_one {w : World} {b off n c : Nat} {xs : List Int} (h : Rd w (some ⟨b, off, none⟩) n 1 (xs.map enc1)) (hq : 1 ≤ n) (hnc : n ≤ c) :
    ∃ o m k, (∀ w', (Instr.slice 26 (.slice (some ⟨b, off, none⟩) n c) (some (.int .i64 1)) none none).run Tryz.prog w' = .ok (.slice (some ⟨b, o, none⟩) m k) w') ∧ Rd w (some ⟨b, o, none⟩) m 1 (xs.tail.map enc1) ∧ m + 1 = n := by
  have hl := h.length
  rw [← List.drop_one]
  by_cases hc : c = 1
  · refine ⟨off, n - 1, c - 1, fun w' => ?_, ?_, by omega⟩
    · rw [run_slice_l (P := Tryz.prog) w' 26 (some ⟨b, off, none⟩) n c (by kernel_rfl) .i64 1 (by omega) (by omega)]
      rw [show (Go.sizeOf (Tryz.prog.elem 26)).run Tryz.prog w' = .ok 1 w' by kernel_rfl]
      simp [Result.andThen, sliced, hc]
    · have : xs.drop 1 = [] := List.drop_of_length_le (by omega)
      rw [this, show n - 1 = 0 by omega]
      exact Rd.nil _ _ _
  · refine ⟨off + 1 * 1, n - 1, c - 1, fun w' => ?_, h.dropK hq, by omega⟩
    rw [run_slice_l (P := Tryz.prog) w' 26 (some ⟨b, off, none⟩) n c (by kernel_rfl) .i64 1 (by omega) (by omega)]
    rw [show (Go.sizeOf (Tryz.prog.elem 26)).run Tryz.prog w' = .ok 1 w' by kernel_rfl]
    simp [Result.andThen, sliced, Addr.add, hc]
theorem owns_cap {w : World} {B e k n c : Nat} {a : Option Addr} {xs : List Value} (h : w.ownsRow B e k (.slice a n c) n xs) : n ≤ c := by
  rcases h.2 with ⟨hv, h8⟩ | ⟨g, cap, cur, hv, _, _, h5, _⟩
  · omega
  · simp at hv; omega
/-- one row is laid anew in a new block -/
theorem IRows.fresh {B N : Nat} {w w' : World} {h X} (hR : IRows B w N h X) {i : Nat} (hi : i < N) (hb : Below w.heap.size w w') (hB : B ≤ w.heap.size) {d : Hdr} {q : List Int} (hown : w'.ownsRow w.heap.size 3 1 (sl d) d.n (q.flatMap enc1)) :
    IRows B w' N (updF h i d) (updF X i q) := by
  have hd : ∀ x, (sl d).ownBlock = some x → w.heap.size ≤ x := fun x hx => (hown.lt x hx).1
  have hlt : ∀ k, k < N → ∀ x, (sl (h k)).ownBlock = some x → x < w.heap.size := fun k hk x hx => ((hR.own k hk).lt x hx).2
  refine ⟨fun k hk => ?_, fun k j hk hj hkj => ?_⟩
  · by_cases e : k = i
    · subst e; rw [updF_same, updF_same]; exact owns_mono hown hB
    · rw [updF_other _ _ e, updF_other _ _ e]; exact owns_ext (hR.own k hk) hb
  · by_cases e : k = i
    · subst e
      rw [updF_same, updF_other _ _ (Ne.symm hkj)]
      cases ho : (sl d).ownBlock with
      | none => exact .inl rfl
      | some x =>
        right
        intro e2
        have h1 := hd x ho
        have h2 := hlt j hj x e2.symm
        omega
    · by_cases e2 : j = i
      · subst e2
        rw [updF_same, updF_other _ _ e]
        cases ho : (sl (h k)).ownBlock with
        | none => exact .inl rfl
        | some x =>
          right
          intro e3
          have h1 := hd x e3.symm
          have h2 := hlt k hk x ho
          omega
      · rw [updF_other _ _ e, updF_other _ _ e2]; exact hR.apart k j hk hj hkj
end Go.Proofs.YtmahagcghpoekaaGreat
namespace Go.Proofs.YtmahagcghpoekaaGreat
open Go.RowKit
set_option linter.unusedSimpArgs false
set_option linter.unusedVariables false
theorem encJ_p (j : Jb) (x : Nat) : encJ { j with p := x } = (encJ j).set 0 (.int .i64 x) := rfl
theorem encJ_t (j : Jb) (x : Nat) : encJ { j with t := x } = (encJ j).set 1 (.int .i64 x) := rfl
theorem encJ_d (j : Jb) (x : Nat) : encJ { j with d := x } = (encJ j).set 2 (.int .i64 x) := rfl
theorem encJ_s (j : Jb) (x : Bool) : encJ { j with s := x } = (encJ j).set 3 (.bool x) := rfl
theorem Mach.zero {M : MPar} {w : World} {s : Ms} (h : Mach M w s) (hl : MLay M) {i : Nat} (hi : i < M.R.L.length) :
    Mach M ((((w.setCell ⟨M.J, i * 4, none⟩ (.int .i64 0)).setCell ⟨M.J, i * 4 + 1, none⟩ (.int .i64 0)).setCell ⟨M.J, i * 4 + 2, none⟩ (.int .i64 0)).setCell ⟨M.J, i * 4 + 3, none⟩ (.bool false)) { s with j := s.j.set i Jb.zero } := by
  have hjl : i < s.j.length := by rw [h.jl]; exact hi
  have h0 := h.job hl hi (j := 0) (by decide) (encJ_p (s.ja i) 0)
  have h1 := h0.job hl hi (j := 1) (by decide) (encJ_t _ 0)
  have h2 := h1.job hl hi (j := 2) (by decide) (encJ_d _ 0)
  have h3 := h2.job hl hi (j := 3) (by decide) (encJ_s _ false)
  have e : ∀ (q : List (List Int)) (o : List En) (x : Jb), Ms.ja ⟨q, s.j.set i x, o⟩ i = x := fun q o x => by rw [ja_set hjl, if_pos rfl]
  simp only [List.set_set, e] at h3
  exact h3
set_option maxRecDepth 10000 in
set_option maxHeartbeats 2000000 in
theorem end_any {M : MPar} {w : World} {s : Ms} {i : Nat} (hl : MLay M) (hM : Mach M w s) (hi : i < M.R.L.length) (hq : s.qa i ≠ []) (hql : (s.qa i).length ≤ 100) (ho : s.o.length ≤ 2000000) (m how : Int) :
    Calls Tryz.prog 91 #[.pointer (some ⟨M.p, 0, none⟩), .int .i64 m, .int .i64 i, .int .i64 how] w fun e w' => e = .returned (.tuple #[]) ∧ Mach M w' (fin1 m i how s) := by
  have HM := Lib.hid hM; have HQ := Lib.hid hq
  clear hM hq
  go_enter Tryz.func91, Tryz.ntmps91
  go_wp2_with (first
    | (go_at_call 93; (with_reducible refine (event_any HM.out hi HQ.out).mono ?_); rintro e w1 ⟨rfl, rfl⟩)
    | (go_at_call 64; (with_reducible refine (write_any hl HM.out ho _ _ _ _ _).mono ?_); rintro e w2 ⟨rfl, hM2⟩; have HM2 := Lib.hid hM2; clear hM2))
  obtain ⟨s2, hs2⟩ : ∃ x, x = s.wr ⟨m, i, 5, s.hd i, how⟩ := ⟨_, rfl⟩
  rw [← hs2] at HM2
  have hqa : s2.qa i = s.qa i := by rw [hs2]; rfl
  obtain ⟨g, g1, g2⟩ := HM2.out.qu
  have c7 := HM2.out.c7
  have c := g1 i hi
  have hlen := g2.len hi
  have hown := g2.own i hi
  rw [hqa] at hlen hown
  have hn : 0 < (g i).n := by rw [← hlen]; exact List.length_pos_iff.2 HQ.out
  have hn100 : (g i).n ≤ 100 := by omega
  unfold sl at hown c
  obtain ⟨x, b, off, e, hb, _, _⟩ := (ownsI_rd hown).idx 0 hn
  have hRd := ownsI_rd hown
  have hcap := owns_cap hown
  rw [e] at c hRd
  obtain ⟨o1, m1, k1, hs1, hd1, hm1⟩ := slice_one (c := (g i).c) hRd hn hcap
  have hm100 : m1 ≤ 100 := by omega
  have HD := Lib.hid hd1
  have HD2 := Lib.hid (hd1.ext (Below.refl w2.heap.size w2).drew)
  have HG := Lib.hid g1
  have HGR := Lib.hid g2
  have HQA := Lib.hid hqa
  have hkl := HM2.out.kl
  have hWz : M.W < w2.heap.size := Nat.lt_of_lt_of_le hl.W.2 hkl
  have hpz : M.p < w2.heap.size := Nat.lt_of_lt_of_le hl.p.2 hkl
  have hfW := HM2.out.fw i
  obtain ⟨nL, hnL⟩ : ∃ x, M.R.L.length = x := ⟨_, rfl⟩
  have HNL := Lib.hid hnL
  rw [hnL] at c7 hi
  have HS2 := Lib.hid hs2
  clear hlen hown hRd g1 g2 hd1 hqa e hb hs2 hnL hn hcap
  go_cut [] (fun wx => ∃ (a2 : Option Addr) (c2 : Nat) (w3 : World), wx = w3.setCell ⟨M.W, i, none⟩ (.slice a2 m1 c2) ∧ w3.ownsRow w2.heap.size 3 1 (.slice a2 m1 c2) m1 ((s.qa i).tail.flatMap enc1) ∧ Below w2.heap.size w2 w3)
  case first =>
    go_region_with (go_at_call 36; (with_reducible refine (cloneI_any _ _ _ _ _ (by omega) HD2.out (fun _ => .inr ⟨_, rfl⟩)).mono ?_); rintro e w3 ⟨a2, c2, rfl, hown3, hb3⟩; have hb3' : Below w2.heap.size w2 w3 := Below.then (Below.refl w2.heap.size w2).drew hb3; have z7 := (hb3'.cell (p := ⟨M.p, 7, none⟩) hpz).trans c7; have zW := (hb3'.cell (p := ⟨M.W, i, none⟩) hWz).trans c; have zf := (hb3'.frozen (p := ⟨M.W, i, none⟩) hWz).trans hfW)
    all_goals
      go_wp2_with fail
      go_meet
      exact ⟨a2, c2, w3, rfl, by simpa using hown3, hb3'⟩
  case rest =>
    obtain ⟨a2, c2, w3, rfl, hown3, hb3⟩ := hcut
    have hM3 : Mach M (w3.setCell ⟨M.W, i, none⟩ (.slice a2 m1 c2)) { s2 with q := s2.q.set i (s.qa i).tail } := by
      refine HM2.out.queue hl (by rw [HNL.out]; exact hi) (hb3.mono hkl) (fun a m c hh => owns_ext hh hb3) HG.out (d := ⟨a2, m1, c2⟩) ?_
      exact HGR.out.fresh (by rw [HNL.out]; exact hi) hb3 hkl hown3
    obtain ⟨w4, hw4⟩ : ∃ x, x = w3.setCell ⟨M.W, i, none⟩ (.slice a2 m1 c2) := ⟨_, rfl⟩
    rw [← hw4] at hM3 ⊢
    have hin : i < M.R.L.length := by rw [HNL.out]; exact hi
    obtain ⟨j0, j1, j2, j3⟩ := hM3.jcells hin
    have c8 := hM3.c8
    rw [HNL.out] at c8
    have f0 := hM3.fj (i * 4)
    have f1 := hM3.fj (i * 4 + 1)
    have f2 := hM3.fj (i * 4 + 2)
    have f3 := hM3.fj (i * 4 + 3)
    have HM3 := Lib.hid hM3
    clear hM3 hw4 hown3 hb3 c c7 hs1 HD HD2 HG HGR hfW
    go_wp2
    go_end0
    refine ⟨rfl, ?_⟩
    have h9 := HM3.out.zero hl hin
    rw [HS2.out] at h9
    exact h9
end Go.Proofs.YtmahagcghpoekaaGreat
