/- A run in memory, and the machine of the program. The conditions: the run reads as named. -/
import Derived.Test.YtlhnhmimhpcoaaaScOrd
import Derived.Test.YtlhnhmimhpcoaaaRows5
import Derived.Test.YtlhnhmimhpcoaaaTkMem
import Derived.Test.YtlhnhmimhpcoaaaApp
import Derived.Test.YtlhnhmimhpcoaaaTkRef4
namespace Go.Proofs.Ytlhnhmimhpcoaaa
open Go.RowKit
set_option linter.unusedSimpArgs false
set_option linter.unusedVariables false
/-- where the parts of a run lie -/
structure RunH where
  tA : Option Addr
  tN : Nat
  tC : Nat
  eA : Option Addr
  eN : Nat
  eC : Nat
  bA : Option Addr
  bN : Nat
  bC : Nat
  sA : Option Addr
  sN : Nat
  sC : Nat
def evAt (evs : List (List P2)) (k : Nat) : List P2 := (evs[k]?).getD []
/-- a slice of lists of pairs -/
structure Evs (w : World) (a : Option Addr) (n : Nat) (evs : List (List P2)) : Prop where
  len : evs.length = n
  sm : n ≤ 9223372036854775807
  at_ : ∀ k, k < n → ∃ (b off : Nat) (ea : Option Addr) (en ec : Nat), a = some ⟨b, off, none⟩ ∧ b < w.heap.size ∧ w.cell? ⟨b, off + k, none⟩ = some (.slice ea en ec) ∧ Rd w ea en 2 ((evAt evs k).map enc2)
theorem Evs.ext {w w' : World} {a : Option Addr} {n : Nat} {evs : List (List P2)} (h : Evs w a n evs) (hb : Below w.heap.size w w') : Evs w' a n evs :=
  ⟨h.len, h.sm, fun k hk => by
    obtain ⟨b, off, ea, en, ec, e, h1, h2, h3⟩ := h.at_ k hk
    exact ⟨b, off, ea, en, ec, e, Nat.lt_of_lt_of_le h1 hb.size, (hb.cell (p := ⟨b, off + k, none⟩) h1).trans h2, h3.ext hb⟩⟩
structure RdRun (w : World) (H : RunH) (R : Rn) : Prop where
  t : RdL w H.tA H.tN R.L
  e : Evs w H.eA H.eN R.ev
  b : Rd w H.bA H.bN 1 (R.bu.map enc1)
  s : Rd w H.sA H.sN 2 (R.sg.map enc2)
theorem RdRun.ext {w w' : World} {H : RunH} {R : Rn} (h : RdRun w H R) (hb : Below w.heap.size w w') : RdRun w' H R := ⟨h.t.ext hb, h.e.ext hb, h.b.ext hb, h.s.ext hb⟩
def encE (e : En) : List Value := [.int .i64 e.m, .int .i64 e.k, .int .i64 e.w, .int .i64 e.a, .int .i64 e.b]
theorem encE_len (e : En) : (encE e).length = 5 := rfl
def encJ (j : Jb) : List Value := [.int .i64 j.p, .int .i64 j.t, .int .i64 j.d, .bool j.s]
theorem EEn : Elt Try.prog 32 43 5 40 := Elt.mk' (z := .agg #[.int .i64 0, .int .i64 0, .int .i64 0, .int .i64 0, .int .i64 0]) Try.underlying32 (by kernel_rfl) rfl (by decide)
/-- the machine's boxes -/
structure MPar where
  w0 : World
  H : RunH
  R : Rn
  K : Nat
  p : Nat
  W : Nat
  J : Nat
  rb : Nat
  O : List Int
structure MLay (M : MPar) : Prop where
  p : M.w0.heap.size ≤ M.p ∧ M.p < M.K
  W : M.w0.heap.size ≤ M.W ∧ M.W < M.K
  J : M.w0.heap.size ≤ M.J ∧ M.J < M.K
  r : M.w0.heap.size ≤ M.rb ∧ M.rb < M.K
  ne : M.p ≠ M.W ∧ M.p ≠ M.J ∧ M.p ≠ M.rb ∧ M.W ≠ M.J ∧ M.W ≠ M.rb ∧ M.J ≠ M.rb
structure Mach (M : MPar) (w : World) (s : Ms) : Prop where
  c0 : w.cell? ⟨M.p, 0, none⟩ = some (.slice M.H.tA M.H.tN M.H.tC)
  c1 : w.cell? ⟨M.p, 1, none⟩ = some (.int .i64 M.R.fr)
  c2 : w.cell? ⟨M.p, 2, none⟩ = some (.int .i64 M.R.sl)
  c3 : w.cell? ⟨M.p, 3, none⟩ = some (.slice M.H.eA M.H.eN M.H.eC)
  c4 : w.cell? ⟨M.p, 4, none⟩ = some (.slice M.H.bA M.H.bN M.H.bC)
  c5 : w.cell? ⟨M.p, 5, none⟩ = some (.slice M.H.sA M.H.sN M.H.sC)
  c6 : w.cell? ⟨M.p, 6, none⟩ = some (.slice (some ⟨M.rb, 0, none⟩) M.R.L.length M.R.L.length)
  c7 : w.cell? ⟨M.p, 7, none⟩ = some (.slice (some ⟨M.W, 0, none⟩) M.R.L.length M.R.L.length)
  c8 : w.cell? ⟨M.p, 8, none⟩ = some (.slice (some ⟨M.J, 0, none⟩) M.R.L.length M.R.L.length)
  fp : ∀ j, w.frozen? ⟨M.p, j, none⟩ = false
  en : ∃ (a : Option Addr) (m c : Nat), w.cell? ⟨M.p, 9, none⟩ = some (.slice a m c) ∧ w.ownsRow M.K 43 5 (.slice a m c) m (s.o.flatMap encE)
  rk : ∀ i, i < M.R.L.length → ∃ x, M.O[i]? = some x ∧ w.cell? ⟨M.rb, i, none⟩ = some (.int .i64 x)
  fr : ∀ j, w.frozen? ⟨M.rb, j, none⟩ = false
  qu : ∃ h : Nat → Hdr, (∀ i, i < M.R.L.length → w.cell? ⟨M.W, i, none⟩ = some (sl (h i))) ∧ IRows M.K w M.R.L.length h s.qa
  fw : ∀ j, w.frozen? ⟨M.W, j, none⟩ = false
  jb : ∀ i, i < M.R.L.length → ∀ j, j < 4 → w.cell? ⟨M.J, i * 4 + j, none⟩ = (encJ (s.ja i))[j]?
  fj : ∀ j, w.frozen? ⟨M.J, j, none⟩ = false
  kl : M.K ≤ w.heap.size
  ql : s.q.length = M.R.L.length
  jl : s.j.length = M.R.L.length
  lb : Below M.w0.heap.size M.w0 w
theorem addr_neS {b b' i j : Nat} (h : b ≠ b' ∨ i ≠ j) : (⟨b, i, none⟩ : Addr) ≠ ⟨b', j, none⟩ := by
  intro q; rcases h with h | h
  · exact h (congrArg Addr.block q)
  · exact h (congrArg Addr.off q)
section
variable {M : MPar} {w w' : World} {s s' : Ms}
/-- all but the entries and the queues -/
theorem Mach.keep (h : Mach M w s) (hl : MLay M) (hb : Below M.K w w')
    (hen : ∃ (a : Option Addr) (m c : Nat), w'.cell? ⟨M.p, 9, none⟩ = some (.slice a m c) ∧ w'.ownsRow M.K 43 5 (.slice a m c) m (s'.o.flatMap encE))
    (hq : ∃ h : Nat → Hdr, (∀ i, i < M.R.L.length → w'.cell? ⟨M.W, i, none⟩ = some (sl (h i))) ∧ IRows M.K w' M.R.L.length h s'.qa) (hj : s'.j = s.j) (hql : s'.q.length = s.q.length) : Mach M w' s' := by
  have cp : ∀ j, w'.cell? ⟨M.p, j, none⟩ = w.cell? ⟨M.p, j, none⟩ := fun j => hb.cell (p := ⟨M.p, j, none⟩) hl.p.2
  have hja : ∀ i, s'.ja i = s.ja i := fun i => by unfold Ms.ja; rw [hj]
  exact ⟨(cp 0).trans h.c0, (cp 1).trans h.c1, (cp 2).trans h.c2, (cp 3).trans h.c3, (cp 4).trans h.c4, (cp 5).trans h.c5, (cp 6).trans h.c6, (cp 7).trans h.c7, (cp 8).trans h.c8,
    fun j => (hb.frozen (p := ⟨M.p, j, none⟩) hl.p.2).trans (h.fp j), hen,
    fun i hi => by obtain ⟨x, h1, h2⟩ := h.rk i hi; exact ⟨x, h1, (hb.cell (p := ⟨M.rb, i, none⟩) hl.r.2).trans h2⟩,
    fun j => (hb.frozen (p := ⟨M.rb, j, none⟩) hl.r.2).trans (h.fr j), hq, fun j => (hb.frozen (p := ⟨M.W, j, none⟩) hl.W.2).trans (h.fw j),
    fun i hi j hj4 => by rw [hja]; exact (hb.cell (p := ⟨M.J, i * 4 + j, none⟩) hl.J.2).trans (h.jb i hi j hj4), fun j => (hb.frozen (p := ⟨M.J, j, none⟩) hl.J.2).trans (h.fj j),
    Nat.le_trans h.kl hb.size, hql.trans h.ql, by rw [hj]; exact h.jl, h.lb.trans (hb.mono (Nat.le_trans hl.p.1 (Nat.le_of_lt hl.p.2)))⟩
theorem Mach.ext (h : Mach M w s) (hl : MLay M) (hb : Below w.heap.size w w') : Mach M w' s := by
  have hk := h.kl
  have hp := hl.p
  have hW := hl.W
  refine h.keep hl (hb.mono hk) ?_ ?_ rfl rfl
  · obtain ⟨a, m, c, h1, h2⟩ := h.en
    exact ⟨a, m, c, (hb.cell (p := ⟨M.p, 9, none⟩) (by simp only []; omega)).trans h1, owns_ext h2 hb⟩
  · obtain ⟨g, h1, h2⟩ := h.qu
    exact ⟨g, fun i hi => (hb.cell (p := ⟨M.W, i, none⟩) (by simp only []; omega)).trans (h1 i hi), h2.ext hb⟩
/-- an entry has been laid -/
theorem Mach.entry (h : Mach M w s) (hl : MLay M) {a a' : Option Addr} {m c c' : Nat} {e : En} {o : Obj} (h1 : w.cell? ⟨M.p, 9, none⟩ = some (.slice a m c)) (h2 : w.ownsRow M.K 43 5 (.slice a m c) m (s.o.flatMap encE))
    (hown : w'.ownsRow M.K 43 5 (.slice a' (m + 1) c') (m + 1) (s.o.flatMap encE ++ encE e)) (hg : (w.alloc o).grownBy w' (Value.slice a m c).ownBlock) :
    Mach M (w'.setCell ⟨M.p, 9, none⟩ (.slice a' (m + 1) c')) (s.wr e) := by
  have hk := h.kl
  have hp := hl.p
  have hb : Below M.K w w' := ((Below.refl M.K w).alloc hk o).trans (grown_below (h2.alloc o) hg (by rw [World.size_alloc]; omega))
  have hq : ∃ g : Nat → Hdr, (∀ i, i < M.R.L.length → w'.cell? ⟨M.W, i, none⟩ = some (sl (g i))) ∧ IRows M.K w' M.R.L.length g s.qa := by
    obtain ⟨g, g1, g2⟩ := h.qu
    exact ⟨g, fun i hi => (hb.cell (p := ⟨M.W, i, none⟩) hl.W.2).trans (g1 i hi), ⟨fun i hi => owns_kept ((g2.own i hi).alloc o) (h2.alloc o) (by decide) hg, g2.apart⟩⟩
  have h9 : w'.cell? ⟨M.p, 9, none⟩ = some (.slice a m c) := (hb.cell (p := ⟨M.p, 9, none⟩) hp.2).trans h1
  have cp : ∀ j, j ≠ 9 → (w'.setCell ⟨M.p, 9, none⟩ (.slice a' (m + 1) c')).cell? ⟨M.p, j, none⟩ = w.cell? ⟨M.p, j, none⟩ := fun j hj => (World.cell?_setCell_other _ _ _ _ (addr_neS (.inr (fun q => hj q.symm)))).trans (hb.cell (p := ⟨M.p, j, none⟩) hp.2)
  have co : ∀ b j, b ≠ M.p → (w'.setCell ⟨M.p, 9, none⟩ (.slice a' (m + 1) c')).cell? ⟨b, j, none⟩ = w'.cell? ⟨b, j, none⟩ := fun b j hb => World.cell?_setCell_other _ _ _ _ (addr_neS (.inl (fun q => hb q.symm)))
  obtain ⟨n1, n2, n3, n4, n5, n6⟩ := hl.ne
  refine ⟨(cp 0 (by decide)).trans h.c0, (cp 1 (by decide)).trans h.c1, (cp 2 (by decide)).trans h.c2, (cp 3 (by decide)).trans h.c3, (cp 4 (by decide)).trans h.c4, (cp 5 (by decide)).trans h.c5, (cp 6 (by decide)).trans h.c6, (cp 7 (by decide)).trans h.c7, (cp 8 (by decide)).trans h.c8,
    fun j => by rw [World.frozen?_setCell]; exact (hb.frozen (p := ⟨M.p, j, none⟩) hp.2).trans (h.fp j), ⟨a', m + 1, c', World.cell?_setCell_same _ _ _ h9, ?_⟩,
    fun i hi => ?_, fun j => by rw [World.frozen?_setCell]; exact (hb.frozen (p := ⟨M.rb, j, none⟩) hl.r.2).trans (h.fr j), ?_, fun j => by rw [World.frozen?_setCell]; exact (hb.frozen (p := ⟨M.W, j, none⟩) hl.W.2).trans (h.fw j),
    fun i hi j hj4 => ?_, fun j => by rw [World.frozen?_setCell]; exact (hb.frozen (p := ⟨M.J, j, none⟩) hl.J.2).trans (h.fj j), by have := hb.size; simp; omega, h.ql, h.jl, ?_⟩
  · have : (s.wr e).o.flatMap encE = s.o.flatMap encE ++ encE e := by simp [Ms.wr]
    rw [this]
    exact owns_far hown hp.2 _
  · obtain ⟨x, g1, g2⟩ := h.rk i hi
    exact ⟨x, g1, (co M.rb i (fun q => n3 q.symm)).trans ((hb.cell (p := ⟨M.rb, i, none⟩) hl.r.2).trans g2)⟩
  · obtain ⟨g, g1, g2⟩ := hq
    exact ⟨g, fun i hi => (co M.W i (fun q => n1 q.symm)).trans (g1 i hi), g2.far hp.2 _⟩
  · exact (co M.J _ (fun q => n2 q.symm)).trans ((hb.cell (p := ⟨M.J, i * 4 + j, none⟩) hl.J.2).trans (h.jb i hi j hj4))
  · exact (h.lb.trans (hb.mono (by omega))).setCell (p := ⟨M.p, 9, none⟩) hp.1 _
/-- a cell of a job has been laid -/
theorem Mach.job (h : Mach M w s) (hl : MLay M) {i : Nat} (hi : i < M.R.L.length) {j : Nat} (hj : j < 4) {v : Value} {b : Jb} (he : encJ b = (encJ (s.ja i)).set j v) :
    Mach M (w.setCell ⟨M.J, i * 4 + j, none⟩ v) { s with j := s.j.set i b } := by
  have hk := h.kl
  obtain ⟨n1, n2, n3, n4, n5, n6⟩ := hl.ne
  have co : ∀ b k, b ≠ M.J → (w.setCell ⟨M.J, i * 4 + j, none⟩ v).cell? ⟨b, k, none⟩ = w.cell? ⟨b, k, none⟩ := fun b k hb => World.cell?_setCell_other _ _ _ _ (addr_neS (.inl (fun q => hb q.symm)))
  have cp := fun k => co M.p k n2
  refine ⟨(cp 0).trans h.c0, (cp 1).trans h.c1, (cp 2).trans h.c2, (cp 3).trans h.c3, (cp 4).trans h.c4, (cp 5).trans h.c5, (cp 6).trans h.c6, (cp 7).trans h.c7, (cp 8).trans h.c8,
    fun k => by rw [World.frozen?_setCell]; exact h.fp k, ?_, fun k hk => ?_, fun k => by rw [World.frozen?_setCell]; exact h.fr k, ?_, fun k => by rw [World.frozen?_setCell]; exact h.fw k, fun k hk k' hk4 => ?_, fun k => by rw [World.frozen?_setCell]; exact h.fj k,
    by simpa using hk, h.ql, by simpa using h.jl, h.lb.setCell (p := ⟨M.J, i * 4 + j, none⟩) hl.J.1 _⟩
  · obtain ⟨a, m, c, g1, g2⟩ := h.en
    exact ⟨a, m, c, (cp 9).trans g1, owns_far g2 hl.J.2 _⟩
  · obtain ⟨x, g1, g2⟩ := h.rk k hk
    exact ⟨x, g1, (co M.rb k (fun q => n6 q.symm)).trans g2⟩
  · obtain ⟨g, g1, g2⟩ := h.qu
    exact ⟨g, fun k hk => (co M.W k n4).trans (g1 k hk), g2.far hl.J.2 _⟩
  · rw [ja_set (by rw [h.jl]; exact hi)]
    by_cases e : k = i
    · subst e
      rw [if_pos rfl, he, List.getElem?_set]
      by_cases e2 : j = k'
      · subst e2
        rw [if_pos rfl, if_pos (by simpa [encJ] using hj)]
        have := h.jb k hk j hj
        have hlt : j < (encJ (s.ja k)).length := by simpa [encJ] using hj
        rw [List.getElem?_eq_getElem hlt] at this
        exact World.cell?_setCell_same _ _ _ this
      · rw [if_neg e2]
        exact (World.cell?_setCell_other _ _ _ _ (addr_neS (.inr (by omega)))).trans (h.jb k hk k' hk4)
    · rw [if_neg e]
      exact (World.cell?_setCell_other _ _ _ _ (addr_neS (.inr (by omega)))).trans (h.jb k hk k' hk4)
/-- a queue has been laid anew: the row i, its header -/
theorem Mach.queue (h : Mach M w s) (hl : MLay M) {i : Nat} (hi : i < M.R.L.length) {g : Nat → Hdr} {d : Hdr} {q : List Int} (hb : Below M.K w w')
    (hen : ∀ (a : Option Addr) (m c : Nat), w.ownsRow M.K 43 5 (.slice a m c) m (s.o.flatMap encE) → w'.ownsRow M.K 43 5 (.slice a m c) m (s.o.flatMap encE))
    (hg : ∀ k, k < M.R.L.length → w.cell? ⟨M.W, k, none⟩ = some (sl (g k))) (hr : IRows M.K w' M.R.L.length (updF g i d) (updF s.qa i q)) :
    Mach M (w'.setCell ⟨M.W, i, none⟩ (sl d)) { s with q := s.q.set i q } := by
  have hk := h.kl
  have hp := hl.p
  obtain ⟨n1, n2, n3, n4, n5, n6⟩ := hl.ne
  have co : ∀ b k, b ≠ M.W → b < M.K → (w'.setCell ⟨M.W, i, none⟩ (sl d)).cell? ⟨b, k, none⟩ = w.cell? ⟨b, k, none⟩ := fun b k hbn hbk => (World.cell?_setCell_other _ _ _ _ (addr_neS (.inl (fun q => hbn q.symm)))).trans (hb.cell (p := ⟨b, k, none⟩) hbk)
  have cp := fun k => co M.p k n1 hp.2
  refine ⟨(cp 0).trans h.c0, (cp 1).trans h.c1, (cp 2).trans h.c2, (cp 3).trans h.c3, (cp 4).trans h.c4, (cp 5).trans h.c5, (cp 6).trans h.c6, (cp 7).trans h.c7, (cp 8).trans h.c8,
    fun k => by rw [World.frozen?_setCell]; exact (hb.frozen (p := ⟨M.p, k, none⟩) hp.2).trans (h.fp k), ?_, fun k hk => ?_, fun k => by rw [World.frozen?_setCell]; exact (hb.frozen (p := ⟨M.rb, k, none⟩) hl.r.2).trans (h.fr k), ?_,
    fun k => by rw [World.frozen?_setCell]; exact (hb.frozen (p := ⟨M.W, k, none⟩) hl.W.2).trans (h.fw k), fun k hk k' hk4 => (co M.J _ (fun q => n4 q.symm) hl.J.2).trans (h.jb k hk k' hk4), fun k => by rw [World.frozen?_setCell]; exact (hb.frozen (p := ⟨M.J, k, none⟩) hl.J.2).trans (h.fj k),
    by have := hb.size; simp; omega, by simpa using h.ql, h.jl, (h.lb.trans (hb.mono (by omega))).setCell (p := ⟨M.W, i, none⟩) hl.W.1 _⟩
  · obtain ⟨a, m, c, g1, g2⟩ := h.en
    exact ⟨a, m, c, (cp 9).trans g1, owns_far (hen a m c g2) hl.W.2 _⟩
  · obtain ⟨x, g1, g2⟩ := h.rk k hk
    exact ⟨x, g1, (co M.rb k (fun q => n5 q.symm) hl.r.2).trans g2⟩
  · refine ⟨updF g i d, fun k hk => ?_, ?_⟩
    · by_cases e : k = i
      · subst e
        rw [updF_same]
        exact World.cell?_setCell_same _ _ _ ((hb.cell (p := ⟨M.W, k, none⟩) hl.W.2).trans (hg k hk))
      · rw [updF_other _ _ e]
        exact (World.cell?_setCell_other _ _ _ _ (addr_neS (.inr (fun q => e q.symm)))).trans ((hb.cell (p := ⟨M.W, k, none⟩) hl.W.2).trans (hg k hk))
    · have e : Ms.qa { s with q := s.q.set i q } = updF s.qa i q := by
        funext k
        rw [qa_set (q := s.q) (by rw [h.ql]; exact hi)]
        rfl
      rw [e]
      exact hr.far hl.W.2 _
end
end Go.Proofs.Ytlhnhmimhpcoaaa
