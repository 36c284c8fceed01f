/- Several rows of ints that a call made, each in a block of its own; append to one of them. No condition: plain lemmas. Tasks in memory; the contracts of right and Tasks. The conditions: the tasks read as named. The contracts of Tasks, Ahead, Ceiling of the reference. The conditions: the tasks read as named. The contracts of slices.SortStableFunc at less than 20 ints, at a row that the call made, and of cmp.Compare. The conditions: the row is the caller's own; the comparison leaves it alone. The contracts of ranked of the program, and of Ahead, Tasks, Ceiling, Ranks of the reference. The conditions: the tasks read as named. The contracts of Ranks, Ceilings of the reference. The conditions: the tasks read as named. The contracts of Blockers, Blocking, Raised of the reference. The conditions: the tasks read as named. The contracts of Blocking, Raised of the reference. The conditions: the tasks read as named. A run in memory, and the machine of the program. The conditions: the run reads as named. append of one element whose block lies behind other new blocks. No condition: a plain lemma. -/
import Derived.Test.YtmahagcghpoekaaMg2
import Derived.Test.YtmahagcghpoekaaMg1
import Derived.BigRegion
namespace Go.Proofs.Ytmahagcghpoekaa
open Go.RowKit
set_option linter.unusedSimpArgs false
set_option linter.unusedVariables false
structure Hdr where
  a : Option Addr
  n : Nat
  c : Nat
deriving Inhabited
abbrev sl (h : Hdr) : Value := .slice h.a h.n h.c
def updF {α : Type} (f : Nat → α) (i : Nat) (x : α) : Nat → α := fun j => if j = i then x else f j
theorem updF_same {α : Type} (f : Nat → α) (i : Nat) (x : α) : updF f i x i = x := by simp [updF]
theorem updF_other {α : Type} (f : Nat → α) {i j : Nat} (x : α) (h : j ≠ i) : updF f i x j = f j := by simp [updF, h]
structure IRows (B : Nat) (w : World) (N : Nat) (h : Nat → Hdr) (X : Nat → List Int) : Prop where
  own : ∀ i, i < N → w.ownsRow B 3 1 (sl (h i)) (h i).n ((X i).flatMap enc1)
  apart : ∀ i j, i < N → j < N → i ≠ j → (sl (h i)).ownBlock = none ∨ (sl (h i)).ownBlock ≠ (sl (h j)).ownBlock
theorem IRows.ext {B N : Nat} {w w' : World} {h X} (hR : IRows B w N h X) (hb : Below w.heap.size w w') : IRows B w' N h X := ⟨fun i hi => owns_ext (hR.own i hi) hb, hR.apart⟩
theorem IRows.far {B N : Nat} {w : World} {h X} (hR : IRows B w N h X) {q j : Nat} (hq : q < B) (u : Value) : IRows B (w.setCell ⟨q, j, none⟩ u) N h X := ⟨fun i hi => owns_far (hR.own i hi) hq u, hR.apart⟩
theorem IRows.len {B N : Nat} {w : World} {h X} (hR : IRows B w N h X) {i : Nat} (hi : i < N) : (X i).length = (h i).n := (ownsI_rd (hR.own i hi)).length
theorem IRows.push {B N : Nat} {w w' : World} {h X} (hR : IRows B w N h X) {i : Nat} (hi : i < N) {a' : Option Addr} {c' : Nat} {x : Int}
    (hown : w'.ownsRow B 3 1 (.slice a' ((h i).n + 1) c') ((h i).n + 1) ((X i ++ [x]).flatMap enc1)) (hg : w.grownBy w' (sl (h i)).ownBlock)
    (hb : (Value.slice a' ((h i).n + 1) c').ownBlock = (sl (h i)).ownBlock ∨ (Value.slice a' ((h i).n + 1) c').ownBlock = some w.heap.size) :
    IRows B w' N (updF h i ⟨a', (h i).n + 1, c'⟩) (updF X i (X i ++ [x])) := by
  have hlt : ∀ k, k < N → (sl (h k)).ownBlock ≠ some w.heap.size := fun k hk e => by
    have := ((hR.own k hk).lt _ e).2; omega
  refine ⟨fun k hk => ?_, fun k j hk hj hkj => ?_⟩
  · by_cases e : k = i
    · subst e; rw [updF_same, updF_same]; exact hown
    · rw [updF_other _ _ e, updF_other _ _ e]
      exact (hR.own k hk).kept hg (hR.apart k i hk hi e)
  · by_cases e : k = i
    · subst e
      rw [updF_same, updF_other _ _ (Ne.symm hkj)]
      rcases hb with hb | hb
      · rw [hb]; exact hR.apart k j hk hj hkj
      · rw [hb]; right; exact fun q => hlt j hj q.symm
    · by_cases e2 : j = i
      · subst e2
        rw [updF_same, updF_other _ _ e]
        rcases hb with hb | hb
        · rw [hb]; exact hR.apart k j hk hj hkj
        · rw [hb]; right; exact hlt k hk
      · rw [updF_other _ _ e, updF_other _ _ e2]; exact hR.apart k j hk hj hkj
theorem run_app2 {P : Program} {w : World} {t ty e k bytes B n m c : Nat} (E : Elt P t e k bytes) {v : Value} {xs news : List Value} {ad : Addr} (hown : w.ownsRow B e k v n xs)
    (hl : news.length = m * k) (hnews : ∀ j u, news[j]? = some u → w.cell? (ad.add j) = some u) (h1 : ∀ u ∈ news, u.oneCell' = true) (hn : n + m ≤ 100000000) (hm : 0 < m) (hby : bytes ≤ 1000) (hB : B ≤ w.heap.size) :
    ∃ a' c' w', (Builtin.append_ #[t, t] ty #[v, .slice (some ad) m c]).run P w = .ok (.slice a' (n + m) c') w' ∧ w'.ownsRow B e k (.slice a' (n + m) c') (n + m) (xs ++ news) ∧ w.grownBy w' v.ownBlock ∧ ((Value.slice a' (n + m) c').ownBlock = v.ownBlock ∨ (Value.slice a' (n + m) c').ownBlock = some w.heap.size) := by
  obtain ⟨i, z, h2, h3, h4, h5, h6⟩ := E.hi
  obtain ⟨v', w', hr, q1, q2, _, q3⟩ := run_append_own_at (P := P) w B t ty e i z k bytes E.ht h2 h3 h4 h5 h6 E.hk v n xs hown ad m c news hl hnews h1 (by unfold maxLen; omega) (by have : (n + m) * bytes ≤ 100000000 * 1000 := Nat.mul_le_mul hn hby; omega) hB
  rcases q1.2 with ⟨rfl, h8⟩ | ⟨g, cap, cur, rfl, h9⟩
  · omega
  · exact ⟨_, _, w', hr, q1, q2, q3⟩
theorem step_app2 {P : Program} {ops : Array Oper} {o : Oper} {a : Act} {w : World} {K : Act → World → Prop} {Q : Exit → Act → World → Prop} {EE : Prop} (hgd : o.guard = none) (s x : Operand) (t : TypeId)
    (ho : o.op = .call { callee := .builtin .append, args := #[s, x], argTypes := #[t, t] }) {e k bytes B n m c : Nat} (E : Elt P t e k bytes) {v : Value} {xs news : List Value} {ad : Addr}
    (hs : a.eval s = v) (hown : w.ownsRow B e k v n xs) (hx : a.eval x = .slice (some ad) m c) (hl : news.length = m * k) (hnews : ∀ j u, news[j]? = some u → w.cell? (ad.add j) = some u) (h1 : ∀ u ∈ news, u.oneCell' = true) (hn : n + m ≤ 100000000) (hm : 0 < m) (hby : bytes ≤ 1000) (hB : B ≤ w.heap.size)
    (h : ∀ a' c' w', w'.ownsRow B e k (.slice a' (n + m) c') (n + m) (xs ++ news) → w.grownBy w' v.ownBlock → ((Value.slice a' (n + m) c').ownBlock = v.ownBlock ∨ (Value.slice a' (n + m) c').ownBlock = some w.heap.size) → K (a.put o.dst (.slice a' (n + m) c')) w') :
    if Region.wanted o (yielded ops a.tmps) = true then Oper.wp P o a w K Q else EE := by
  have hw : Region.wanted o (yielded ops a.tmps) = true := by simp [Region.wanted, hgd]
  rw [if_pos hw]
  obtain ⟨a', c', w', hr, q1, q2, q3⟩ := run_app2 (P := P) (ty := o.type) E hown hl hnews h1 hn hm hby hB
  unfold Oper.wp execOp
  simp only [ho, resolve, invoke, builtin, Sem.run_bind, Sem.run_pure, Result.andThen_ok, List.map_toArray, List.map_cons, List.map_nil, hs, hx]
  rw [hr]
  exact h _ _ w' q1 q2 q3
/-- out = append(out, x), x built in the block ahead of it; where the new row lies -/
theorem wpList_push2 {P : Program} {ops : Array Oper} {rest : List Oper} {o : Oper} {a : Act} {Q : Exit → Act → World → Prop} {w : World} {T : TypeId} {arr : Array Value} (hgd : o.guard = none) (s x : Operand) (t : TypeId)
    (ho : o.op = .call { callee := .builtin .append, args := #[s, x], argTypes := #[t, t] }) {e k bytes B n c : Nat} (E : Elt P t e k bytes) {v : Value} {xs : List Value}
    (hs : a.eval s = v) (hown : w.ownsRow B e k v n xs) (hx : a.eval x = .slice (some ⟨w.heap.size, 0, none⟩) 1 c) (harr : arr.size = k) (h1 : ∀ u ∈ arr.toList, u.oneCell' = true)
    (hn : n ≤ 10000000) (hby : bytes ≤ 1000) (hB : B ≤ w.heap.size)
    (h : ∀ a' c' w', w'.ownsRow B e k (.slice a' (n + 1) c') (n + 1) (xs ++ arr.toList) → (w.alloc (.cells arr T)).grownBy w' v.ownBlock → ((Value.slice a' (n + 1) c').ownBlock = v.ownBlock ∨ (Value.slice a' (n + 1) c').ownBlock = some (w.heap.size + 1)) → wpList P ops Q rest (a.put o.dst (.slice a' (n + 1) c')) w') :
    wpList P ops Q (o :: rest) a (w.alloc (.cells arr T)) := by
  obtain ⟨i, z, h2, h3, h4, h5, h6⟩ := E.hi
  refine wpList_append_own_at (w.alloc (.cells arr T)) hgd s x t ho B e i z k bytes E.ht h2 h3 h4 h5 h6 E.hk v n xs hs (hown.alloc _) ⟨w.heap.size, 0, none⟩ 1 c arr.toList hx (by simpa using harr) ?_ h1 (by unfold maxLen; omega) ?_ (by simp; omega) ?_
  · intro j u hj
    have : (w.alloc (.cells arr T)).cell? ⟨w.heap.size, j, none⟩ = arr[j]? := World.cell?_alloc_new w arr T j
    have e : (⟨w.heap.size, 0, none⟩ : Addr).add j = ⟨w.heap.size, j, none⟩ := by unfold Addr.add; split <;> simp_all
    rw [e, this]; simpa using hj
  · have : (n + 1) * bytes ≤ 10000001 * 1000 := Nat.mul_le_mul (by omega) hby
    omega
  · intro v' w' hown' hg _ hw
    obtain ⟨hl, h7⟩ := hown'
    rcases h7 with ⟨_, h8⟩ | ⟨g, cap, cur, rfl, h9⟩
    · omega
    · exact h _ _ _ ⟨hl, .inr ⟨g, cap, cur, rfl, h9⟩⟩ hg (by simpa using hw)
end Go.Proofs.Ytmahagcghpoekaa
namespace Go.Proofs.Ytmahagcghpoekaa
open Go.RowKit
set_option linter.unusedSimpArgs false
set_option linter.unusedVariables false
/-- a task as it lies in memory -/
structure TaV where
  pri : Int
  dl : Int
  first : Int
  gap : Int
  jit : Int
  a : Option Addr
  n : Nat
  c : Nat
  pcs : List P2
deriving Inhabited
def TaV.ta (t : TaV) : Ta := ⟨t.pri, t.dl, t.first, t.gap, t.jit, t.pcs⟩
def encTa (t : TaV) : List Value := [.int .i64 t.pri, .int .i64 t.dl, .int .i64 t.first, .int .i64 t.gap, .int .i64 t.jit, .slice t.a t.n t.c]
abbrev valTa (t : TaV) : Value := .agg #[.int .i64 t.pri, .int .i64 t.dl, .int .i64 t.first, .int .i64 t.gap, .int .i64 t.jit, .slice t.a t.n t.c]
abbrev valPc (p : P2) : Value := .agg #[.int .i64 p.1, .int .i64 p.2]
theorem encTa_len (t : TaV) : (encTa t).length = 6 := rfl
theorem encTa_one (t : TaV) : ∀ u ∈ encTa t, u.oneCell' = true := by intro u hu; simp [encTa] at hu; rcases hu with rfl | rfl | rfl | rfl | rfl | rfl <;> rfl
theorem enc2_len (p : P2) : (enc2 p).length = 2 := rfl
theorem enc2_one (p : P2) : ∀ u ∈ enc2 p, u.oneCell' = true := by intro u hu; simp [enc2] at hu; rcases hu with rfl | rfl <;> rfl
def NilOk (a : Option Addr) (n c : Nat) : Prop := n = 0 → (a = none ∧ c = 0) ∨ ∃ ad, a = some ad
def TaV.ok (w : World) (t : TaV) : Prop := Rd w t.a t.n 2 (t.pcs.map enc2) ∧ NilOk t.a t.n t.c
theorem TaV.ok.ext {w w' : World} {t : TaV} (h : t.ok w) (hb : Below w.heap.size w w') : t.ok w' := ⟨h.1.ext hb, h.2⟩
structure RdT (w : World) (a : Option Addr) (n : Nat) (g : List TaV) : Prop where
  rd : Rd w a n 6 (g.map encTa)
  ok : ∀ t ∈ g, t.ok w
theorem RdT.ext {w w' : World} {a n g} (h : RdT w a n g) (hb : Below w.heap.size w w') : RdT w' a n g := ⟨h.rd.ext hb, fun t ht => (h.ok t ht).ext hb⟩
theorem RdT.length {w a n} {g : List TaV} (h : RdT w a n g) : g.length = n := h.rd.length
/-- a slice reads as these tasks -/
def RdL (w : World) (a : Option Addr) (n : Nat) (L : List Ta) : Prop := ∃ g : List TaV, RdT w a n g ∧ g.map TaV.ta = L
theorem RdT.rdL {w a n} {g : List TaV} (h : RdT w a n g) : RdL w a n (g.map TaV.ta) := ⟨g, h, rfl⟩
theorem RdL.ext {w w' : World} {a n L} (h : RdL w a n L) (hb : Below w.heap.size w w') : RdL w' a n L := ⟨h.choose, h.choose_spec.1.ext hb, h.choose_spec.2⟩
theorem RdL.length {w a n} {L : List Ta} (h : RdL w a n L) : L.length = n := by obtain ⟨g, h1, rfl⟩ := h; simpa using h1.length
theorem RdL.small {w a n} {L : List Ta} (h : RdL w a n L) : n ≤ 9223372036854775807 := by obtain ⟨g, h1, rfl⟩ := h; exact h1.rd.small
theorem later_rdL {w w1 : World} {x : After w1} {a n L} (h : RdL w a n L) (hb : Below w.heap.size w w1) : RdL (World.later w1 x) a n L := (h.ext hb).ext x.below
theorem RdL.at_ {w a n} {L : List Ta} (h : RdL w a n L) (k : Nat) (hk : k < n) : ∃ (t : Ta) (b off : Nat) (pa : Option Addr) (pn pc : Nat), a = some ⟨b, off, none⟩ ∧ b < w.heap.size ∧
    w.cell? ⟨b, off + k * 6, none⟩ = some (.int .i64 t.pri) ∧ w.cell? ⟨b, off + k * 6 + 1, none⟩ = some (.int .i64 t.dl) ∧ w.cell? ⟨b, off + k * 6 + 2, none⟩ = some (.int .i64 t.first) ∧ w.cell? ⟨b, off + k * 6 + 3, none⟩ = some (.int .i64 t.gap) ∧
    w.cell? ⟨b, off + k * 6 + 4, none⟩ = some (.int .i64 t.jit) ∧ w.cell? ⟨b, off + k * 6 + 5, none⟩ = some (.slice pa pn pc) ∧ Rd w pa pn 2 (t.pcs.map enc2) ∧ NilOk pa pn pc ∧ L[k]? = some t ∧ Hid (L.drop k = t :: L.drop (k + 1)) := by
  obtain ⟨g, h1, rfl⟩ := h
  have hl : k < g.length := by rw [h1.length]; exact hk
  obtain ⟨b, off, rfl, hlt, hc⟩ := h1.rd.at_ (by omega)
  have c0 := hc k (by simpa using hl) 0 (by omega)
  have c1 := hc k (by simpa using hl) 1 (by omega)
  have c2 := hc k (by simpa using hl) 2 (by omega)
  have c3 := hc k (by simpa using hl) 3 (by omega)
  have c4 := hc k (by simpa using hl) 4 (by omega)
  have c5 := hc k (by simpa using hl) 5 (by omega)
  simp [encTa] at c0 c1 c2 c3 c4 c5
  have hok := h1.ok _ (List.getElem_mem hl)
  refine ⟨g[k].ta, b, off, g[k].a, g[k].n, g[k].c, rfl, hlt, c0, c1, c2, c3, c4, c5, hok.1, hok.2, by simp [List.getElem?_eq_getElem hl], ?_⟩
  have : (g.map TaV.ta).drop k = _ := List.drop_eq_getElem_cons (by simpa using hl)
  rw [List.getElem_map] at this
  exact this
theorem tk_idx (g : Nat) (lb : Array Value) (p : TaV → Bool) (a : Option Addr) (n c : Nat) (xs : List TaV) (w : World) (hR : Rd w a n 6 (xs.map encTa)) (hf : PredIn g lb valTa p xs w) :
    Calls Try.prog 97 #[.slice a n c, .func (.func g) #[] lb] w fun e w' => e = .returned (.int .i64 (idxGo p 0 xs)) ∧ Below w.heap.size w w' := by
  have HL := Lib.hid hR.length
  have hs := hR.small
  have HR := Lib.hid hR; clear hR
  have eg := hf.eg
  have HF := Lib.hid hf.gives; clear hf
  generalize hg : idxGo p 0 xs = R
  have HG := Lib.hid hg; clear hg
  go_enter Try.func97, Try.ntmps97
  go_wp2
  go_loopw [8] (fun i wr => ∃ k : Nat, k ≤ n ∧ i = .int .i64 k ∧ idxGo p k (xs.drop k) = R ∧ Below w.heap.size w wr) (fun i _ => n - (intOf i).toNat)
  case atStart => exact ⟨0, Nat.zero_le _, rfl, HG.out, Below.refl _ _⟩
  case round =>
    obtain ⟨k, hk, rfl, he, hB⟩ := hrel
    have HE := Lib.hid he; clear he
    by_cases hlt : k < n
    · obtain ⟨x, b, off, rfl, hb, hc, hx, _, HD⟩ := (HR.out.ext hB).nextK k hlt
      have h0 := hc 0 (by omega)
      have h1 := hc 1 (by omega)
      have h2 := hc 2 (by omega)
      have h3 := hc 3 (by omega)
      have h4 := hc 4 (by omega)
      have h5 := hc 5 (by omega)
      clear hc
      simp [encTa] at h0 h1 h2 h3 h4 h5
      have hcall := HF.out x hx wr hB
      have HB := Lib.hid hB; clear hB
      have HE2 : Hid ((if p x = true then (k : Int) else idxGo p (k + 1) (xs.drop (k + 1))) = R) := by have := HE.out; rw [HD.out] at this; exact this
      cases hq : p x
      · rw [hq] at hcall HE2
        go_wp2_with (go_at_fn g; refine hcall.mono ?_; rintro e w1 ⟨rfl, hb1⟩)
        go_roundw
        case rel => exact ⟨k + 1, by omega, by go_num, by simpa using HE2.out, HB.out.trans (hb1.mono HB.out.size)⟩
        case measure => simp [intOf]; omega
      · rw [hq] at hcall HE2
        have : R = k := by simpa using HE2.out.symm
        subst this
        go_wp2_with (go_at_fn g; refine hcall.mono ?_; rintro e w1 ⟨rfl, hb1⟩)
        go_ret
        exact ⟨rfl, HB.out.trans (hb1.mono HB.out.size)⟩
    · have : R = -1 := by rw [← HE.out, drop_end HL.out (by omega)]; rfl
      subst this
      go_wp2
      go_ret
      exact ⟨rfl, hB⟩
theorem tk_con (g : Nat) (lb : Array Value) (p : TaV → Bool) (a : Option Addr) (n c : Nat) (xs : List TaV) (w : World) (hR : Rd w a n 6 (xs.map encTa)) (hf : PredIn g lb valTa p xs w) :
    Calls Try.prog 68 #[.slice a n c, .func (.func g) #[] lb] w fun e w' => e = .returned (.bool (xs.any p)) ∧ Below w.heap.size w w' := by
  have HR := Lib.hid hR; clear hR
  have HF := Lib.hid hf; clear hf
  go_enter Try.func68, Try.ntmps68
  go_wp2_with (go_at_call 97; refine (tk_idx _ _ _ _ _ _ _ _ HR.out HF.out).mono ?_; rintro e w1 ⟨rfl, hb1⟩)
  go_ret
  exact ⟨ret_bool (idxGo_any p xs 0), by (repeat' (first | (with_reducible exact Below.refl _ _) | (with_reducible assumption) | (with_reducible refine Below.alloc ?_ ?_ _) | (with_reducible refine Below.drew ?_) | (with_reducible refine Below.draws ?_ _) | (with_reducible refine Below.setCell ?_ ?_ _) | (refine Below.then ?_ (by with_reducible assumption)) | go_size))⟩

theorem pc_idx (g : Nat) (lb : Array Value) (p : P2 → Bool) (a : Option Addr) (n c : Nat) (xs : List P2) (w : World) (hR : Rd w a n 2 (xs.map enc2)) (hf : PredIn g lb valPc p xs w) :
    Calls Try.prog 98 #[.slice a n c, .func (.func g) #[] lb] w fun e w' => e = .returned (.int .i64 (idxGo p 0 xs)) ∧ Below w.heap.size w w' := by
  have HL := Lib.hid hR.length
  have hs := hR.small
  have HR := Lib.hid hR; clear hR
  have eg := hf.eg
  have HF := Lib.hid hf.gives; clear hf
  generalize hg : idxGo p 0 xs = R
  have HG := Lib.hid hg; clear hg
  go_enter Try.func98, Try.ntmps98
  go_wp2
  go_loopw [8] (fun i wr => ∃ k : Nat, k ≤ n ∧ i = .int .i64 k ∧ idxGo p k (xs.drop k) = R ∧ Below w.heap.size w wr) (fun i _ => n - (intOf i).toNat)
  case atStart => exact ⟨0, Nat.zero_le _, rfl, HG.out, Below.refl _ _⟩
  case round =>
    obtain ⟨k, hk, rfl, he, hB⟩ := hrel
    have HE := Lib.hid he; clear he
    by_cases hlt : k < n
    · obtain ⟨x, b, off, rfl, hb, hc, hx, _, HD⟩ := (HR.out.ext hB).nextK k hlt
      have h0 := hc 0 (by omega)
      have h1 := hc 1 (by omega)
      clear hc
      simp [enc2] at h0 h1
      have hcall := HF.out x hx wr hB
      have HB := Lib.hid hB; clear hB
      have HE2 : Hid ((if p x = true then (k : Int) else idxGo p (k + 1) (xs.drop (k + 1))) = R) := by have := HE.out; rw [HD.out] at this; exact this
      cases hq : p x
      · rw [hq] at hcall HE2
        go_wp2_with (go_at_fn g; refine hcall.mono ?_; rintro e w1 ⟨rfl, hb1⟩)
        go_roundw
        case rel => exact ⟨k + 1, by omega, by go_num, by simpa using HE2.out, HB.out.trans (hb1.mono HB.out.size)⟩
        case measure => simp [intOf]; omega
      · rw [hq] at hcall HE2
        have : R = k := by simpa using HE2.out.symm
        subst this
        go_wp2_with (go_at_fn g; refine hcall.mono ?_; rintro e w1 ⟨rfl, hb1⟩)
        go_ret
        exact ⟨rfl, HB.out.trans (hb1.mono HB.out.size)⟩
    · have : R = -1 := by rw [← HE.out, drop_end HL.out (by omega)]; rfl
      subst this
      go_wp2
      go_ret
      exact ⟨rfl, hB⟩
theorem pc_con (g : Nat) (lb : Array Value) (p : P2 → Bool) (a : Option Addr) (n c : Nat) (xs : List P2) (w : World) (hR : Rd w a n 2 (xs.map enc2)) (hf : PredIn g lb valPc p xs w) :
    Calls Try.prog 70 #[.slice a n c, .func (.func g) #[] lb] w fun e w' => e = .returned (.bool (xs.any p)) ∧ Below w.heap.size w w' := by
  have HR := Lib.hid hR; clear hR
  have HF := Lib.hid hf; clear hf
  go_enter Try.func70, Try.ntmps70
  go_wp2_with (go_at_call 98; refine (pc_idx _ _ _ _ _ _ _ _ HR.out HF.out).mono ?_; rintro e w1 ⟨rfl, hb1⟩)
  go_ret
  exact ⟨ret_bool (idxGo_any p xs 0), by (repeat' (first | (with_reducible exact Below.refl _ _) | (with_reducible assumption) | (with_reducible refine Below.alloc ?_ ?_ _) | (with_reducible refine Below.drew ?_) | (with_reducible refine Below.draws ?_ _) | (with_reducible refine Below.setCell ?_ ?_ _) | (refine Below.then ?_ (by with_reducible assumption)) | go_size))⟩

theorem ilk_any (n : Int) (w : World) : Calls Try.prog 72 #[.int .i64 n] w fun e w' => e = .returned (.bool (inB n 0 5)) ∧ w = w' := by
  go_enter Try.func72, Try.ntmps72
  go_wp2
  all_goals (go_ret; exact ⟨ret_bool (by rw [inB_eq]; simp [*]; try omega), rfl⟩)
theorem ilk_is {n : Int} {b : Bool} {w : World} (h : inB n 0 5 = b) : Calls Try.prog 72 #[.int .i64 n] w fun e w' => e = .returned (.bool b) ∧ w = w' := by subst h; exact ilk_any n w
theorem pieceF_any (p : P2) (w : World) : Calls Try.prog 71 #[valPc p] w fun e w' => e = .returned (.bool (!pieceB p)) ∧ Below w.heap.size w w' := by
  obtain ⟨t, l⟩ := p
  obtain ⟨R, hR⟩ : ∃ R, pieceB (t, l) = R := ⟨_, rfl⟩
  rw [hR]
  unfold pieceB at hR
  simp only [] at hR
  by_cases h1 : t < 1
  · have : R = false := by rw [← hR, inB_eq]; simp; omega
    subst this
    clear hR
    go_enter Try.func71, Try.ntmps71
    go_wp2
    go_ret
    exact ⟨rfl, by (repeat' (first | (with_reducible exact Below.refl _ _) | (with_reducible assumption) | (with_reducible refine Below.alloc ?_ ?_ _) | (with_reducible refine Below.drew ?_) | (with_reducible refine Below.draws ?_ _) | (with_reducible refine Below.setCell ?_ ?_ _) | (refine Below.then ?_ (by with_reducible assumption)) | go_size))⟩
  · by_cases h2 : 200 < t
    · have : R = false := by rw [← hR, inB_eq]; simp; omega
      subst this
      have h1' : decide (t < 1) = false := by simpa using h1
      clear hR
      go_enter Try.func71, Try.ntmps71
      go_wp2
      go_ret
      exact ⟨rfl, by (repeat' (first | (with_reducible exact Below.refl _ _) | (with_reducible assumption) | (with_reducible refine Below.alloc ?_ ?_ _) | (with_reducible refine Below.drew ?_) | (with_reducible refine Below.draws ?_ _) | (with_reducible refine Below.setCell ?_ ?_ _) | (refine Below.then ?_ (by with_reducible assumption)) | go_size))⟩
    · have h1' : decide (t < 1) = false := by simpa using h1
      have h2' : decide (200 < t) = false := by simpa using h2
      have e1 : inB t 1 200 = true := inB_iff.2 (by omega)
      rw [e1, Bool.true_and] at hR
      by_cases h3 : l = -1
      · subst h3
        obtain rfl : R = true := by rw [← hR]; rfl
        clear hR
        go_enter Try.func71, Try.ntmps71
        go_wp2
        go_ret
        exact ⟨rfl, by (repeat' (first | (with_reducible exact Below.refl _ _) | (with_reducible assumption) | (with_reducible refine Below.alloc ?_ ?_ _) | (with_reducible refine Below.drew ?_) | (with_reducible refine Below.draws ?_ _) | (with_reducible refine Below.setCell ?_ ?_ _) | (refine Below.then ?_ (by with_reducible assumption)) | go_size))⟩
      · have h3' : (l != -1) = true := by simpa using h3
        have e2 : inB l 0 5 = R := by rw [← hR]; unfold inB; congr 1; exact propext ⟨fun h => by omega, fun h => by omega⟩
        have HE := Lib.hid e2
        clear hR e2 e1
        cases R
        all_goals
          go_enter Try.func71, Try.ntmps71
          go_wp2_with (go_at_call 72; refine (ilk_is HE.out).mono ?_; rintro e w1 ⟨rfl, rfl⟩)
          go_ret
          exact ⟨rfl, by (repeat' (first | (with_reducible exact Below.refl _ _) | (with_reducible assumption) | (with_reducible refine Below.alloc ?_ ?_ _) | (with_reducible refine Below.drew ?_) | (with_reducible refine Below.draws ?_ _) | (with_reducible refine Below.setCell ?_ ?_ _) | (refine Below.then ?_ (by with_reducible assumption)) | go_size))⟩
theorem any_not {α : Type} (f : α → Bool) : ∀ l : List α, (l.any fun x => !f x) = !(l.all f)
  | [] => rfl
  | x :: l => by simp [any_not f l]
theorem pieces_any (a : Option Addr) (n c : Nat) (xs : List P2) (w : World) (hR : Rd w a n 2 (xs.map enc2)) :
    Calls Try.prog 70 #[.slice a n c, .func (.func 71) #[] #[]] w fun e w' => e = .returned (.bool (!(xs.all pieceB))) ∧ Below w.heap.size w w' := by
  have := pc_con 71 #[] (fun p => !pieceB p) a n c xs w hR ⟨fun args w => by kernel_rfl, fun x hx w' hb => pieceF_any x w'⟩
  rw [any_not] at this
  exact this
theorem pieces_is {a : Option Addr} {n c : Nat} {xs : List P2} {w : World} {b : Bool} (hR : Rd w a n 2 (xs.map enc2)) (h : xs.all pieceB = b) :
    Calls Try.prog 70 #[.slice a n c, .func (.func 71) #[] #[]] w fun e w' => e = .returned (.bool (!b)) ∧ Below w.heap.size w w' := by subst h; exact pieces_any a n c xs w hR
theorem taskB_eq {t : Ta} {n : Nat} (h : t.pcs.length = n) : taskB t = (inB t.pri 0 99 && inB n 1 8 && t.pcs.all pieceB) := by rw [← h]; rfl
set_option maxHeartbeats 1000000 in
theorem taskF_any (t : TaV) (w : World) (hok : t.ok w) : Calls Try.prog 69 #[valTa t] w fun e w' => e = .returned (.bool (!taskB t.ta)) ∧ Below w.heap.size w w' := by
  obtain ⟨pri, dl, first, gap, jit, a, n, c, pcs⟩ := t
  obtain ⟨hR, hN⟩ := hok
  simp only [] at hR hN
  have hl := hR.length
  have hs := hR.small
  rw [taskB_eq (t := TaV.ta ⟨pri, dl, first, gap, jit, a, n, c, pcs⟩) hl]
  obtain ⟨R, hRR⟩ : ∃ R, (inB pri 0 99 && inB n 1 8 && pcs.all pieceB) = R := ⟨_, rfl⟩
  show Calls _ _ _ _ (fun e w' => e = .returned (.bool (!(inB pri 0 99 && inB n 1 8 && pcs.all pieceB))) ∧ _)
  rw [hRR]
  have HR := Lib.hid hR
  clear hR hl hN
  by_cases h1 : pri < 0
  · have : R = false := by rw [← hRR, inB_eq]; simp; omega
    subst this
    clear hRR
    go_enter Try.func69, Try.ntmps69
    go_wp2
    go_ret
    exact ⟨rfl, by (repeat' (first | (with_reducible exact Below.refl _ _) | (with_reducible assumption) | (with_reducible refine Below.alloc ?_ ?_ _) | (with_reducible refine Below.drew ?_) | (with_reducible refine Below.draws ?_ _) | (with_reducible refine Below.setCell ?_ ?_ _) | (refine Below.then ?_ (by with_reducible assumption)) | go_size))⟩
  · by_cases h2 : 99 < pri
    · have : R = false := by rw [← hRR, inB_eq]; simp; omega
      subst this
      have h1' : decide (pri < 0) = false := by simpa using h1
      clear hRR
      go_enter Try.func69, Try.ntmps69
      go_wp2
      go_ret
      exact ⟨rfl, by (repeat' (first | (with_reducible exact Below.refl _ _) | (with_reducible assumption) | (with_reducible refine Below.alloc ?_ ?_ _) | (with_reducible refine Below.drew ?_) | (with_reducible refine Below.draws ?_ _) | (with_reducible refine Below.setCell ?_ ?_ _) | (refine Below.then ?_ (by with_reducible assumption)) | go_size))⟩
    · have h1' : decide (pri < 0) = false := by simpa using h1
      have h2' : decide (99 < pri) = false := by simpa using h2
      rw [show inB pri 0 99 = true from inB_iff.2 (by omega), Bool.true_and] at hRR
      by_cases h3 : n < 1
      · have : R = false := by rw [← hRR, inB_eq]; simp; omega
        subst this
        have h3' : (n : Int) < 1 := by omega
        clear hRR
        go_enter Try.func69, Try.ntmps69
        go_wp2
        go_ret
        exact ⟨rfl, by (repeat' (first | (with_reducible exact Below.refl _ _) | (with_reducible assumption) | (with_reducible refine Below.alloc ?_ ?_ _) | (with_reducible refine Below.drew ?_) | (with_reducible refine Below.draws ?_ _) | (with_reducible refine Below.setCell ?_ ?_ _) | (refine Below.then ?_ (by with_reducible assumption)) | go_size))⟩
      · by_cases h4 : 8 < n
        · have : R = false := by rw [← hRR, inB_eq]; simp; omega
          subst this
          have h3' : decide ((n : Int) < 1) = false := by simp; omega
          have h3'' : decide (n < 1) = false := by simp; omega
          have h4' : 8 < (n : Int) := by omega
          clear hRR
          go_enter Try.func69, Try.ntmps69
          go_wp2
          go_ret
          exact ⟨rfl, by (repeat' (first | (with_reducible exact Below.refl _ _) | (with_reducible assumption) | (with_reducible refine Below.alloc ?_ ?_ _) | (with_reducible refine Below.drew ?_) | (with_reducible refine Below.draws ?_ _) | (with_reducible refine Below.setCell ?_ ?_ _) | (refine Below.then ?_ (by with_reducible assumption)) | go_size))⟩
        · rw [show inB n 1 8 = true from inB_iff.2 (by omega), Bool.true_and] at hRR
          have h3' : decide ((n : Int) < 1) = false := by simp; omega
          have h4' : decide (8 < (n : Int)) = false := by simp; omega
          have h3'' : decide (n < 1) = false := by simp; omega
          have h4'' : decide (8 < n) = false := by simp; omega
          have HE := Lib.hid hRR
          clear hRR h3 h4
          cases R
          all_goals
            go_enter Try.func69, Try.ntmps69
            go_wp2_with (go_at_call 70; (with_reducible refine (pieces_is (HR.out.ext (by (repeat' (first | (with_reducible exact Below.refl _ _) | (with_reducible assumption) | (with_reducible refine Below.alloc ?_ ?_ _) | (with_reducible refine Below.drew ?_) | (with_reducible refine Below.draws ?_ _) | (with_reducible refine Below.setCell ?_ ?_ _) | (refine Below.then ?_ (by with_reducible assumption)) | go_size)))) HE.out).mono ?_); rintro e w1 ⟨rfl, hb1⟩)
            go_ret
            exact ⟨rfl, by (repeat' (first | (with_reducible exact Below.refl _ _) | (with_reducible assumption) | (with_reducible refine Below.alloc ?_ ?_ _) | (with_reducible refine Below.drew ?_) | (with_reducible refine Below.draws ?_ _) | (with_reducible refine Below.setCell ?_ ?_ _) | (refine Below.then ?_ (by with_reducible assumption)) | go_size))⟩
theorem right_any (a : Option Addr) (n c : Nat) (L : List Ta) (w : World) (hL : RdL w a n L) : Calls Try.prog 42 #[.slice a n c] w fun e w' => e = .returned (.bool (rightB L)) ∧ Below w.heap.size w w' := by
  obtain ⟨g, hG, rfl⟩ := hL
  have hl := hG.length
  have hs := hG.rd.small
  obtain ⟨R, hR⟩ : ∃ R, rightB (g.map TaV.ta) = R := ⟨_, rfl⟩
  rw [hR]
  unfold rightB at hR
  rw [List.length_map, hl, List.all_map] at hR
  have HG := Lib.hid hG
  clear hG hl
  by_cases h5 : n ≤ 5
  · rw [decide_eq_true h5, Bool.true_and] at hR
    have h5' : (n : Int) ≤ 5 := by omega
    have HC : Hid (Calls Try.prog 68 #[.slice a n c, .func (.func 69) #[] #[]] w fun e w' => e = .returned (.bool (!R)) ∧ Below w.heap.size w w') := by
      have := tk_con 69 #[] (fun t => !taskB t.ta) a n c g w HG.out.rd ⟨fun args w => by kernel_rfl, fun x hx w' hb => taskF_any x w' ((HG.out.ok x hx).ext hb)⟩
      rw [any_not (fun t : TaV => taskB t.ta)] at this
      have e : g.all (fun t => taskB t.ta) = R := hR
      rw [e] at this
      exact Lib.hid this
    clear hR
    cases R
    all_goals
      go_enter Try.func42, Try.ntmps42
      go_wp2_with (go_at_call 68; refine (HC.out).mono ?_; rintro e w1 ⟨rfl, hb1⟩; obtain ⟨hc1, hf1, hz1, hr1⟩ := bfacts hb1; (try simp only [World.size_alloc, World.size_setCell, World.size_drew, World.size_drewN] at hz1 hr1); (try have hw0 : w.heap.size < w1.heap.size := by omega); (try have hw1 : w.heap.size + 1 < w1.heap.size := by omega); (try have hw2 : w.heap.size + 1 + 1 < w1.heap.size := by omega))
      go_ret
      exact ⟨rfl, by (repeat' (first | (with_reducible exact Below.refl _ _) | (with_reducible assumption) | (with_reducible refine Below.alloc ?_ ?_ _) | (with_reducible refine Below.drew ?_) | (with_reducible refine Below.draws ?_ _) | (with_reducible refine Below.setCell ?_ ?_ _) | (refine Below.then ?_ (by with_reducible assumption)) | go_size))⟩
  · rw [decide_eq_false h5, Bool.false_and] at hR
    subst hR
    have h5' : decide ((n : Int) ≤ 5) = false := by simp; omega
    have h5'' : decide (n ≤ 5) = false := by simp; omega
    go_enter Try.func42, Try.ntmps42
    go_wp2
    go_ret
    exact ⟨rfl, by (repeat' (first | (with_reducible exact Below.refl _ _) | (with_reducible assumption) | (with_reducible refine Below.alloc ?_ ?_ _) | (with_reducible refine Below.drew ?_) | (with_reducible refine Below.draws ?_ _) | (with_reducible refine Below.setCell ?_ ?_ _) | (refine Below.then ?_ (by with_reducible assumption)) | go_size))⟩
theorem right_is {a : Option Addr} {n c : Nat} {L : List Ta} {w : World} {b : Bool} (hL : RdL w a n L) (h : rightB L = b) : Calls Try.prog 42 #[.slice a n c] w fun e w' => e = .returned (.bool b) ∧ Below w.heap.size w w' := by subst h; exact right_any a n c L w hL
end Go.Proofs.Ytmahagcghpoekaa
namespace Go.Proofs.Ytmahagcghpoekaa
open Go.RowKit
set_option linter.unusedSimpArgs false
set_option linter.unusedVariables false
theorem Rd.pc_at {w : World} {a : Option Addr} {n : Nat} {ps : List P2} (h : Rd w a n 2 (ps.map enc2)) (k : Nat) (hk : k < n) : ∃ (x y : Int) (b off : Nat), a = some ⟨b, off, none⟩ ∧ b < w.heap.size ∧
    w.cell? ⟨b, off + k * 2, none⟩ = some (.int .i64 x) ∧ w.cell? ⟨b, off + k * 2 + 1, none⟩ = some (.int .i64 y) ∧ ps[k]? = some (x, y) ∧ Hid (ps.drop k = (x, y) :: ps.drop (k + 1)) := by
  obtain ⟨hl, b, off, rfl, hb, h1, h2⟩ := h.two k hk
  exact ⟨_, _, b, off, rfl, hb, h1, h2, List.getElem?_eq_getElem hl, List.drop_eq_getElem_cons hl⟩
theorem priI_lt {L : List Ta} {k : Nat} {t : Ta} (h : L[k]? = some t) : priI L (k : Int) = t.pri := priI_of h
theorem pieceB_no {x y : Int} (h : x < 1 ∨ 200 < x ∨ y < -1 ∨ 6 ≤ y) : pieceB (x, y) = false := by
  unfold pieceB; rw [inB_eq, inB_eq]; simp; omega
theorem pieceB_yes {x y : Int} (h : ¬ (x < 1 ∨ 200 < x ∨ y < -1 ∨ 6 ≤ y)) : pieceB (x, y) = true := by
  unfold pieceB; rw [inB_eq, inB_eq]; simp; omega
theorem taskB_no {t : Ta} {n : Nat} (hn : t.pcs.length = n) (h : t.pri < 0 ∨ 99 < t.pri ∨ n < 1 ∨ 8 < n) : taskB t = false := by
  rw [taskB_eq hn, inB_eq, inB_eq]; simp; omega
theorem taskB_yes {t : Ta} {n : Nat} (hn : t.pcs.length = n) (h : ¬ (t.pri < 0 ∨ 99 < t.pri ∨ n < 1 ∨ 8 < n)) : taskB t = t.pcs.all pieceB := by
  rw [taskB_eq hn, inB_iff.2 (show (0 : Int) ≤ t.pri ∧ t.pri ≤ 99 by omega), inB_iff.2 (show (1 : Int) ≤ n ∧ (n : Int) ≤ 8 by omega)]; simp
set_option maxRecDepth 10000 in
set_option maxHeartbeats 2000000 in
theorem rTasks_any (a : Option Addr) (n c : Nat) (L : List Ta) (w : World) (hL : RdL w a n L) :
    Calls Try.prog 57 #[.slice a n c] w fun e w' => e = .returned (.bool (rightB L)) ∧ Below w.heap.size w w' := by
  have hll := hL.length
  have hs := hL.small
  obtain ⟨R, hR⟩ : ∃ R, rightB L = R := ⟨_, rfl⟩
  rw [hR]
  unfold rightB at hR
  rw [hll] at hR
  have HR := Lib.hid hL
  have HLL := Lib.hid hll
  clear hL hll
  by_cases h5 : 5 < n
  · have h5' : (5 : Int) < n := by omega
    obtain rfl : R = false := by rw [← hR, decide_eq_false (by omega), Bool.false_and]
    clear hR
    go_enter Try.func57, Try.ntmps57
    go_wp2
    go_ret
    exact ⟨rfl, Below.refl _ _⟩
  · have h5' : decide ((5 : Int) < n) = false := by simp; omega
    have h5'' : decide (5 < n) = false := by simp; omega
    rw [decide_eq_true (by omega), Bool.true_and] at hR
    have HA : Hid ((L.drop 0).all taskB = R) := Lib.hid hR
    clear hR h5
    go_enter Try.func57, Try.ntmps57
    go_wp2
    go_loopw [3] (fun i wr => ∃ k : Nat, k ≤ n ∧ i = .int .i64 k ∧ (L.drop k).all taskB = R ∧ Below w.heap.size w wr) (fun i _ => n - (intOf i).toNat)
    case atStart => exact ⟨0, Nat.zero_le _, rfl, HA.out, Below.refl _ _⟩
    case round =>
      obtain ⟨k, hk, rfl, he, hB⟩ := hrel
      have HE := Lib.hid he; have HB := Lib.hid hB
      clear he hB HA
      by_cases hlt : k < n
      · obtain ⟨t, b, off, pa, pn, pc, rfl, hb, c0, c1, c2, c3, c4, c5, hp, _, hg, HD⟩ := (HR.out.ext HB.out).at_ k hlt
        have hE := HE.out
        rw [HD.out, List.all_cons] at hE
        have hpl := hp.length
        have hps := hp.small
        have HPL := Lib.hid hpl
        have HP := Lib.hid hp
        clear hg HD hp
        by_cases q1 : t.pri < 0
        · obtain rfl : R = false := by rw [← hE, taskB_no hpl (by omega), Bool.false_and]
          clear hE hpl
          go_wp2
          go_ret
          exact ⟨rfl, HB.out⟩
        · have q1' : decide (t.pri < 0) = false := by simpa using q1
          by_cases q2 : 99 < t.pri
          · obtain rfl : R = false := by rw [← hE, taskB_no hpl (by omega), Bool.false_and]
            clear hE hpl
            go_wp2
            go_ret
            exact ⟨rfl, HB.out⟩
          · have q2' : decide (99 < t.pri) = false := by simpa using q2
            by_cases q3 : pn < 1
            · obtain rfl : R = false := by rw [← hE, taskB_no hpl (by omega), Bool.false_and]
              have q3' : (pn : Int) < 1 := by omega
              clear hE hpl
              go_wp2
              go_ret
              exact ⟨rfl, HB.out⟩
            · have q3' : decide ((pn : Int) < 1) = false := by simp; omega
              have q3'' : decide (pn < 1) = false := by simp; omega
              by_cases q4 : 8 < pn
              · obtain rfl : R = false := by rw [← hE, taskB_no hpl (by omega), Bool.false_and]
                have q4' : (8 : Int) < (pn : Int) := by omega
                clear hE hpl
                go_wp2
                go_ret
                exact ⟨rfl, HB.out⟩
              · have q4' : decide ((8 : Int) < (pn : Int)) = false := by simp; omega
                have q4'' : decide (8 < pn) = false := by simp; omega
                rw [taskB_yes hpl (by omega)] at hE
                have HA2 : Hid (((t.pcs.drop 0).all pieceB && (L.drop (k + 1)).all taskB) = R) := Lib.hid hE
                clear hE hpl q1 q2 q3 q4
                go_wp2
                go_loopw [4] (fun i wr' => ∃ j : Nat, j ≤ pn ∧ i = .int .i64 j ∧ ((t.pcs.drop j).all pieceB && (L.drop (k + 1)).all taskB) = R ∧ Below wr.heap.size wr wr') (fun i _ => pn - (intOf i).toNat)
                case atStart => exact ⟨0, Nat.zero_le _, rfl, HA2.out, Below.refl _ _⟩
                case round =>
                  obtain ⟨j, hj, rfl, he, hB2⟩ := hrel
                  have HE2 := Lib.hid he; have HB2 := Lib.hid hB2
                  have d5 := (hB2.cell (p := ⟨b, off + k * 6 + 5, none⟩) hb).trans c5
                  clear he hB2 HA2
                  by_cases hjt : j < pn
                  · obtain ⟨x, y, b1, off1, rfl, hb1, e1, e2, hpg, HD2⟩ := (HP.out.ext HB2.out).pc_at j hjt
                    have hE := HE2.out
                    rw [HD2.out, List.all_cons] at hE
                    clear hpg HD2
                    by_cases p1 : x < 1
                    · obtain rfl : R = false := by rw [← hE, pieceB_no (by omega)]; simp
                      clear hE
                      go_wp2
                      go_ret
                      exact ⟨rfl, Below.then HB.out (Below.alloc HB2.out HB2.out.size _)⟩
                    · have p1' : decide (x < 1) = false := by simpa using p1
                      by_cases p2 : 200 < x
                      · obtain rfl : R = false := by rw [← hE, pieceB_no (by omega)]; simp
                        clear hE
                        go_wp2
                        go_ret
                        exact ⟨rfl, Below.then HB.out (Below.alloc HB2.out HB2.out.size _)⟩
                      · have p2' : decide (200 < x) = false := by simpa using p2
                        by_cases p3 : y < -1
                        · obtain rfl : R = false := by rw [← hE, pieceB_no (by omega)]; simp
                          clear hE
                          go_wp2
                          go_ret
                          exact ⟨rfl, Below.then HB.out (Below.alloc HB2.out HB2.out.size _)⟩
                        · have p3' : decide (y < -1) = false := by simpa using p3
                          by_cases p4 : 6 ≤ y
                          · obtain rfl : R = false := by rw [← hE, pieceB_no (by omega)]; simp
                            clear hE
                            go_wp2
                            go_ret
                            exact ⟨rfl, Below.then HB.out (Below.alloc HB2.out HB2.out.size _)⟩
                          · have p4' : decide (6 ≤ y) = false := by simpa using p4
                            rw [pieceB_yes (by omega), Bool.true_and] at hE
                            have HE3 := Lib.hid hE
                            clear hE p1 p2 p3 p4
                            go_wp2
                            go_roundw
                            case rel => exact ⟨j + 1, by omega, by go_num, HE3.out, Below.alloc HB2.out HB2.out.size _⟩
                            case measure => simp [intOf]; omega
                  · have hE := HE2.out
                    rw [drop_end HPL.out (by omega), List.all_nil, Bool.true_and] at hE
                    have HE3 := Lib.hid hE
                    clear hE
                    go_wp2
                    go_roundw
                    case rel => exact ⟨k + 1, by omega, by go_num, HE3.out, Below.then HB.out HB2.out⟩
                    case measure => simp [intOf]; omega
      · have hE := HE.out
        rw [drop_end HLL.out (by omega), List.all_nil] at hE
        subst hE
        go_wp2
        go_ret
        exact ⟨rfl, HB.out⟩
theorem rTasks_is {a : Option Addr} {n c : Nat} {L : List Ta} {w : World} {b : Bool} (hL : RdL w a n L) (h : rightB L = b) : Calls Try.prog 57 #[.slice a n c] w fun e w' => e = .returned (.bool b) ∧ Below w.heap.size w w' := by subst h; exact rTasks_any a n c L w hL
theorem taAt_drop {L : List Ta} {k : Nat} {t : Ta} (h : L[k]? = some t) : taAt L (k : Int) = t := taAt_of h
theorem ceilFrom_step {L : List Ta} {lock : Int} {f i : Nat} {b R : Int} (h : ceilFrom L lock (f + 1) i b = R) : ceilFrom L lock f (i + 1) (ceilP L lock i b (taAt L i).pcs) = R := h
end Go.Proofs.Ytmahagcghpoekaa
namespace Go.Proofs.Ytmahagcghpoekaa
open Go.RowKit
set_option linter.unusedSimpArgs false
set_option linter.unusedVariables false
def cmpI (x y : Int) : Int := if x < y then -1 else if y < x then 1 else 0
theorem cmpI_lt (x y : Int) : decide (cmpI x y < 0) = decide (x < y) := by unfold cmpI; (repeat' split) <;> simp <;> omega
theorem nan_any (x : Int) (w : World) : Calls Try.prog 100 #[.int .i64 x] w fun e w' => e = .returned (.bool false) ∧ w = w' := by
  go_enter Try.func100, Try.ntmps100
  go_wp2
  go_ret
  exact ⟨ret_bool (by simp), rfl⟩
theorem compare_any (x y : Int) (w : World) : Calls Try.prog 75 #[.int .i64 x, .int .i64 y] w fun e w' => e = .returned (.int .i64 (cmpI x y)) ∧ w = w' := by
  by_cases h1 : x < y
  · rw [show cmpI x y = -1 from if_pos h1]
    go_enter Try.func75, Try.ntmps75
    go_wp2_with (go_at_call 100; refine (nan_any _ _).mono ?_; rintro e w1 ⟨rfl, rfl⟩)
    go_ret
    exact ⟨rfl, rfl⟩
  · by_cases h2 : y < x
    · rw [show cmpI x y = 1 by unfold cmpI; rw [if_neg h1, if_pos h2]]
      have h1' : decide (x < y) = false := by simpa using h1
      go_enter Try.func75, Try.ntmps75
      go_wp2_with (go_at_call 100; refine (nan_any _ _).mono ?_; rintro e w1 ⟨rfl, rfl⟩)
      go_ret
      exact ⟨rfl, rfl⟩
    · rw [show cmpI x y = 0 by unfold cmpI; rw [if_neg h1, if_neg h2]]
      have h1' : decide (x < y) = false := by simpa using h1
      have h2' : decide (y < x) = false := by simpa using h2
      go_enter Try.func75, Try.ntmps75
      go_wp2_with (go_at_call 100; refine (nan_any _ _).mono ?_; rintro e w1 ⟨rfl, rfl⟩)
      go_ret
      exact ⟨rfl, rfl⟩
def ltOf (cf : Int → Int → Int) (x y : Int) : Bool := decide (cf x y < 0)
/-- what is asked of a comparison: at the elements, in every world that the sort passes through -/
structure CmpOn (g : Nat) (cb : Array Value) (cf : Int → Int → Int) (b : Nat) (xs : List Int) (w : World) : Prop where
  eg : ∀ args w, (callFunc g args).run Try.prog w = .ok (.enter g args) w
  gives : ∀ (wr : World) (x y : Int), w.grownBy wr (some b) → x ∈ xs → y ∈ xs → Calls Try.prog g (#[.int .i64 x, .int .i64 y] ++ cb) wr fun e w' => e = .returned (.int .i64 (cf x y)) ∧ Below wr.heap.size wr w'
theorem grownB {w w1 w2 : World} {r : Option Nat} (h : w.grownBy w1 r) (hb : Below w1.heap.size w1 w2) : w.grownBy w2 r := h.trans ⟨hb.os, hb.tape, hb.output, hb.size, fun j hj _ => hb.block j hj⟩
theorem CmpOn.later {g cb cf b xs} {w w1 : World} (h : CmpOn g cb cf b xs w) (hg : w.grownBy w1 (some b)) : CmpOn g cb cf b xs w1 := ⟨h.eg, fun wr x y h1 => h.gives wr x y (hg.trans h1)⟩
theorem CmpOn.sub {g cb cf b xs ys} {w : World} (h : CmpOn g cb cf b xs w) (hs : ∀ x ∈ ys, x ∈ xs) : CmpOn g cb cf b ys w := ⟨h.eg, fun wr x y h1 hx hy => h.gives wr x y h1 (hs x hx) (hs y hy)⟩
theorem enc1_get (xs : List Int) (j : Nat) : (xs.flatMap enc1)[j]? = (xs[j]?).map (Value.int .i64) := by rw [flat_enc1, List.getElem?_map]
theorem setG {a w : World} {b : Nat} (h : a.grownBy w (some b)) (i : Nat) (v : Value) : a.grownBy (w.setCell ⟨b, i, none⟩ v) (some b) :=
  h.trans ⟨rfl, rfl, rfl, by simp [World.setCell], fun k _ hk => Below.heap_setCell _ _ _ _ (fun e => hk (by simp [e]))⟩
theorem drewG {a w : World} {r : Option Nat} (h : a.grownBy w r) : a.grownBy w.drew r := ⟨h.os, h.tape, h.output, h.size, h.block⟩
theorem swap_row (pre p r : List Int) (y x : Int) (j : Nat) (hj : j = pre.length + p.length) : ((pre ++ (p ++ [y] ++ x :: r)).set (j + 1) y).set j x = pre ++ (p ++ (x :: (y :: r))) := by
  subst hj
  rw [show pre ++ (p ++ [y] ++ x :: r) = (pre ++ p) ++ (y :: x :: r) by simp, List.set_append_right _ _ (by simp), List.set_append_right _ _ (by simp)]
  simp [show pre.length + p.length + 1 - (pre.length + p.length) = 1 by omega]
def SortP (B : Nat) (w : World) (b n c : Nat) (xs : List Int) (e : Ending) (w' : World) : Prop :=
  e = .returned (.tuple #[]) ∧ w'.ownsRow B 3 1 (.slice (some ⟨b, 0, none⟩) n c) n (xs.flatMap enc1) ∧ w.grownBy w' (some b)
set_option maxRecDepth 100000 in
set_option maxHeartbeats 4000000 in
theorem insertion_any (g : Nat) (cb : Array Value) (cf : Int → Int → Int) (B b n c a m : Nat) (pre xs post : List Int) (w : World) (hn : n ≤ 1000) (hO : w.ownsRow B 3 1 (.slice (some ⟨b, 0, none⟩) n c) n ((pre ++ (xs ++ post)).flatMap enc1))
    (ha : pre.length = a) (hm : a + xs.length = m) (hC : CmpOn g cb cf b xs w) :
    Calls Try.prog 111 #[.slice (some ⟨b, 0, none⟩) n c, .int .i64 a, .int .i64 m, .func (.func g) #[] cb] w (SortP B w b n c (pre ++ (isortL (ltOf cf) xs ++ post))) := by
  have hlen : (pre ++ (xs ++ post)).length = n := (ownsI_rd hO).length
  have hmn : m ≤ n := by simp at hlen; omega
  have han : a ≤ n := by simp at hlen; omega
  have eg := hC.eg
  have HC := Lib.hid hC
  have HO0 := Lib.hid hO
  have HA := Lib.hid ha; have HM := Lib.hid hm; have HLN := Lib.hid hlen
  clear hO ha hm hlen hC
  go_enter Try.func111, Try.ntmps111
  go_wp2
  go_loopw [8] (fun v wr => ∃ (i : Nat) (S : List Int), v = .int .i64 ((a + i : Nat) : Int) ∧ 1 ≤ i ∧ a + i ≤ max (a + 1) m ∧ wr.ownsRow B 3 1 (.slice (some ⟨b, 0, none⟩) n c) n ((pre ++ (S ++ (xs.drop i ++ post))).flatMap enc1) ∧ S = isortL (ltOf cf) (xs.take i) ∧ w.grownBy wr (some b)) (fun v _ => m - (intOf v).toNat)
  case atStart =>
    refine ⟨1, isortL (ltOf cf) (xs.take 1), by go_num, by omega, by omega, ?_, rfl, World.grownBy.refl _ _⟩
    have : isortL (ltOf cf) (xs.take 1) = xs.take 1 := by cases xs <;> rfl
    rw [this, ← List.append_assoc (xs.take 1), List.take_append_drop]
    exact HO0.out
  case round =>
    obtain ⟨i, S, rfl, hi1, him, hO, hS, hG⟩ := hrel
    have HO := Lib.hid hO; have HS := Lib.hid hS; have HG := Lib.hid hG
    clear hO hS hG
    by_cases hlt : a + i < m
    · have hlt' : ((a + i : Nat) : Int) < (m : Int) := by omega
      obtain ⟨x, hx⟩ : ∃ x, xs[i]? = some x := ⟨_, List.getElem?_eq_getElem (by have := HM.out; omega)⟩
      have hxd : xs.drop i = x :: xs.drop (i + 1) := by obtain ⟨h1, h2⟩ := List.getElem?_eq_some_iff.1 hx; rw [List.drop_eq_getElem_cons h1, h2]
      have hsl : S.length = i := by rw [HS.out, (isort_perm _ _).length_eq, List.length_take]; have := HM.out; omega
      have HX := Lib.hid hx; have HSL := Lib.hid hsl
      have HTK : Hid (xs.take (i + 1) = xs.take i ++ [x]) := Lib.hid (by rw [List.take_add_one, hx]; rfl)
      have HOi : Hid (wr.ownsRow B 3 1 (.slice (some ⟨b, 0, none⟩) n c) n ((pre ++ (S ++ (x :: ([] ++ (xs.drop (i + 1) ++ post))))).flatMap enc1)) := Lib.hid (by have := HO.out; rw [hxd] at this; exact this)
      clear hx hxd hsl
      obtain ⟨wo, rfl⟩ : ∃ wo : World, wo = wr := ⟨_, rfl⟩
      go_wp2
      go_loopw [9] (fun v wr => ∃ (j : Nat) (p q : List Int), v = .int .i64 (j : Nat) ∧ j = a + p.length ∧ p ++ q = S ∧ (∀ y ∈ q, ltOf cf x y = true) ∧ wr.ownsRow B 3 1 (.slice (some ⟨b, 0, none⟩) n c) n ((pre ++ (p ++ (x :: (q ++ (xs.drop (i + 1) ++ post))))).flatMap enc1) ∧ wo.grownBy wr (some b)) (fun v _ => (intOf v).toNat)
      case atStart => exact ⟨a + i, S, [], rfl, by rw [HSL.out], by simp, by simp, HOi.out, World.grownBy.refl _ _⟩
      case round =>
        obtain ⟨j, p, q, rfl, hj, hpq, hq, hOj, hGj⟩ := hrel
        have HPQ := Lib.hid hpq; have HQ := Lib.hid hq; have HOJ := Lib.hid hOj; have HGJ := Lib.hid hGj; have HJ := Lib.hid hj
        have hjm : j < m := by have := congrArg List.length hpq; rw [HSL.out] at this; simp at this; omega
        clear hpq hq hOj hGj
        rcases List.eq_nil_or_concat p with hp | ⟨p', y, hp⟩
        · have hja : j = a := by rw [hj, hp]; rfl
          subst hja
          have HP := Lib.hid hp
          clear hj hp
          have hd : decide ((j : Int) > (j : Int)) = false := by simp
          go_wp2_with (refine wp_region_later_lit (by kernel_rfl) (by kernel_rfl) ?_; (repeat (go_big_quiet_step (fail))); refine wpQuiet_nil ?_; intro w3 hb3)
          go_roundw
          case rel =>
            refine ⟨i + 1, p ++ x :: q, by go_num, by omega, by omega, ?_, ?_, grownB (HG.out.trans HGJ.out) hb3⟩
            · have := owns_ext HOJ.out hb3
              rw [List.append_assoc p, List.cons_append]
              exact this
            · rw [HTK.out, isort_snoc, ← HS.out, ← HPQ.out, insP_eq HQ.out (by rw [HP.out]; simp)]
          case measure => simp [intOf]; omega
        · rw [List.concat_eq_append] at hp
          have HP := Lib.hid hp
          obtain ⟨jp, rfl⟩ : ∃ jp, j = jp + 1 := ⟨a + p'.length, by rw [hj, hp]; simp; omega⟩
          have hjp : jp = a + p'.length := by rw [hp] at hj; simp at hj; omega
          have HJP := Lib.hid hjp
          have hja : (a : Int) < (jp : Int) + 1 := by omega
          have hxm : x ∈ xs := List.mem_of_getElem? HX.out
          have hym : y ∈ xs := by
            have : y ∈ S := by rw [← HPQ.out, HP.out]; simp
            rw [HS.out, (isort_perm _ _).mem_iff] at this
            exact List.mem_of_mem_take this
          have HXM := Lib.hid hxm; have HYM := Lib.hid hym
          have e1 : (pre ++ (p ++ (x :: (q ++ (xs.drop (i + 1) ++ post)))))[jp + 1]? = some x := by
            rw [HP.out, ← List.append_assoc, List.getElem?_append_right (by simp; have := HA.out; omega)]
            have : jp + 1 - (pre ++ (p' ++ [y])).length = 0 := by simp; have := HA.out; omega
            rw [this]; rfl
          have e2 : (pre ++ (p ++ (x :: (q ++ (xs.drop (i + 1) ++ post)))))[jp]? = some y := by
            rw [HP.out, List.append_assoc, ← List.append_assoc, List.getElem?_append_right (by simp; have := HA.out; omega)]
            have : jp - (pre ++ p').length = 0 := by simp; have := HA.out; omega
            rw [this]; rfl
          obtain ⟨x', hx', c1, f1, hbw⟩ := ownsI_at HOJ.out (jp + 1) (by omega)
          obtain ⟨y', hy', c2, f2, _⟩ := ownsI_at HOJ.out jp (by omega)
          rw [e1] at hx'; rw [e2] at hy'
          obtain rfl : x = x' := by simpa using hx'
          obtain rfl : y = y' := by simpa using hy'
          have HC1 := Lib.hid c1; have HC2 := Lib.hid c2; have HF1 := Lib.hid f1; have HF2 := Lib.hid f2
          clear e1 e2 hx' hy' hj hp hjp hxm hym
          by_cases hl : cf x y < 0
          · have HL := Lib.hid hl
            go_wp2_with (refine wp_region_later_lit (by kernel_rfl) (by kernel_rfl) ?_; (repeat (go_big_quiet_step ((go_at_fn g; exact later_of (HC.out.gives _ x y (grownB (HG.out.trans HGJ.out) (After.below _)) HXM.out HYM.out))))); refine wpQuiet_nil ?_; intro w3 hb3)
            clear f1 f2 c1 c2
            have c1 := (hb3.cell (p := ⟨b, jp + 1, none⟩) hbw).trans HC1.out
            have c2 := (hb3.cell (p := ⟨b, jp, none⟩) hbw).trans HC2.out
            have f1 := (hb3.frozen (p := ⟨b, jp + 1, none⟩) hbw).trans HF1.out
            have f2 := (hb3.frozen (p := ⟨b, jp, none⟩) hbw).trans HF2.out
            go_big_region
            go_wp2
            go_roundw
            case rel =>
              refine ⟨jp, p', y :: q, rfl, HJP.out, by rw [← HPQ.out, HP.out]; simp, ?_, ?_, ?_⟩
              · intro z hz
                rcases List.mem_cons.1 hz with rfl | hz
                · exact decide_eq_true HL.out
                · exact HQ.out z hz
              · have h5 := (ownsI_set (ownsI_set (owns_ext HOJ.out hb3) (jp + 1) y) jp x).drew
                rw [HP.out, swap_row pre p' (q ++ (List.drop (i + 1) xs ++ post)) y x jp (by rw [HA.out]; exact HJP.out)] at h5
                exact h5
              · exact drewG (setG (setG (grownB HGJ.out hb3) _ _) _ _)
            case measure => simp [intOf]
          · have hl' : decide (cf x y < 0) = false := by simpa using hl
            have HL := Lib.hid hl
            go_wp2_with (refine wp_region_later_lit (by kernel_rfl) (by kernel_rfl) ?_; (repeat (go_big_quiet_step ((go_at_fn g; exact later_of (HC.out.gives _ x y (grownB (HG.out.trans HGJ.out) (After.below _)) HXM.out HYM.out))))); refine wpQuiet_nil ?_; intro w3 hb3)
            go_roundw
            case rel =>
              refine ⟨i + 1, p ++ x :: q, by go_num, by omega, by omega, ?_, ?_, grownB (HG.out.trans HGJ.out) hb3⟩
              · have := owns_ext HOJ.out hb3
                rw [List.append_assoc p, List.cons_append]
                exact this
              · rw [HTK.out, isort_snoc, ← HS.out, ← HPQ.out, insP_eq HQ.out (by rw [HP.out]; intro z hz; simp at hz; subst hz; unfold ltOf; exact decide_eq_false HL.out)]
            case measure => simp [intOf]; omega
    · have hlt' : ¬ ((a + i : Nat) : Int) < (m : Int) := by omega
      go_wp2
      go_end0
      refine ⟨rfl, ?_, HG.out⟩
      have hle : xs.length ≤ i := by have := HM.out; omega
      have := HO.out
      rw [HS.out, List.take_of_length_le hle, List.drop_of_length_le hle] at this
      exact this
set_option maxHeartbeats 1000000 in
theorem stable_any (g : Nat) (cb : Array Value) (cf : Int → Int → Int) (B b n c : Nat) (xs : List Int) (w : World) (hn : n < 20) (hO : w.ownsRow B 3 1 (.slice (some ⟨b, 0, none⟩) n c) n (xs.flatMap enc1)) (hC : CmpOn g cb cf b xs w) :
    Calls Try.prog 99 #[.slice (some ⟨b, 0, none⟩) n c, .int .i64 n, .func (.func g) #[] cb] w (SortP B w b n c (isortL (ltOf cf) xs)) := by
  have hlen : xs.length = n := (ownsI_rd hO).length
  have HI : Hid (Calls Try.prog 111 #[.slice (some ⟨b, 0, none⟩) n c, .int .i64 0, .int .i64 n, .func (.func g) #[] cb] w (SortP B w b n c (isortL (ltOf cf) xs))) := by
    have := insertion_any g cb cf B b n c 0 n [] xs [] w (by omega) (by simpa using hO) rfl (by omega) hC
    simp only [List.nil_append, List.append_nil] at this
    exact Lib.hid this
  have h20 : ¬ (20 : Int) ≤ (n : Int) := by omega
  have h21 : ¬ (20 : Int) < (n : Int) := by omega
  have h22 : ¬ 20 ≤ n := by omega
  have h23 : ¬ 20 < n := by omega
  clear hO hC hlen
  go_enter Try.func99, Try.ntmps99
  go_wp2
  go_loopw [7, 8] (fun u v wr => u = .int .i64 0 ∧ v = .int .i64 20 ∧ w = wr) (fun _ _ _ => 0)
  case atStart => exact ⟨rfl, rfl, rfl⟩
  case round =>
    obtain ⟨rfl, rfl, rfl⟩ := hrel
    go_wp2_with (go_at_call 111; refine HI.out.mono ?_; rintro e w1 ⟨rfl, ho, hg⟩; have HO := Lib.hid ho; have HG := Lib.hid hg; clear ho hg)
    go_loopw [6] (fun u wr => u = .int .i64 20 ∧ w1 = wr) (fun _ _ => 0)
    case atStart => exact ⟨rfl, rfl⟩
    case round =>
      obtain ⟨rfl, rfl⟩ := hrel
      go_wp2
      go_end0
      exact ⟨rfl, HO.out, HG.out⟩
theorem sortStable_any (g : Nat) (cb : Array Value) (cf : Int → Int → Int) (B b n c : Nat) (xs : List Int) (w : World) (hn : n < 20) (hO : w.ownsRow B 3 1 (.slice (some ⟨b, 0, none⟩) n c) n (xs.flatMap enc1)) (hC : CmpOn g cb cf b xs w) :
    Calls Try.prog 73 #[.slice (some ⟨b, 0, none⟩) n c, .func (.func g) #[] cb] w (SortP B w b n c (isortL (ltOf cf) xs)) := by
  have HS := Lib.hid (stable_any g cb cf B b n c xs w hn hO hC)
  clear hO hC
  go_enter Try.func73, Try.ntmps73
  go_wp2_with (go_at_call 99; refine HS.out.mono ?_; rintro e w1 ⟨rfl, ho, hg⟩; have HO := Lib.hid ho; have HG := Lib.hid hg; clear ho hg)
  go_end0
  exact ⟨rfl, HO.out, HG.out⟩
end Go.Proofs.Ytmahagcghpoekaa
namespace Go.Proofs.Ytmahagcghpoekaa
open Go.RowKit
set_option linter.unusedSimpArgs false
set_option linter.unusedVariables false
theorem priI_nat {L : List Ta} {x : Int} {t : Ta} (h0 : 0 ≤ x) (h : L[x.toNat]? = some t) : priI L x = t.pri := by simp [priI, taAt, h]
set_option maxHeartbeats 1000000 in
theorem rcmp_any (a : Option Addr) (n c q : Nat) (L : List Ta) (x y : Int) (w : World) (hL : RdL w a n L) (hq : w.cell? ⟨q, 0, none⟩ = some (.slice a n c)) (hqw : q < w.heap.size) (hx : 0 ≤ x ∧ x < n) (hy : 0 ≤ y ∧ y < n) :
    Calls Try.prog 74 #[.int .i64 x, .int .i64 y, .pointer (some ⟨q, 0, none⟩)] w fun e w' => e = .returned (.int .i64 (cmpI (priI L y) (priI L x))) ∧ Below w.heap.size w w' := by
  obtain ⟨i, rfl⟩ := Int.eq_ofNat_of_zero_le hx.1
  obtain ⟨j, rfl⟩ := Int.eq_ofNat_of_zero_le hy.1
  have hi : i < n := by omega
  have hj : j < n := by omega
  obtain ⟨t, b, off, pa, pn, pc, rfl, hb, c0, _, _, _, _, _, _, _, hg, _⟩ := hL.at_ i hi
  obtain ⟨u, b2, off2, pa2, pn2, pc2, e2, _, d0, _, _, _, _, _, _, _, hg2, _⟩ := hL.at_ j hj
  simp at e2
  obtain ⟨rfl, rfl⟩ := e2
  have hs := hL.small
  rw [priI_of hg, priI_of hg2]
  clear hL hx hy hg hg2
  go_enter Try.func74, Try.ntmps74
  go_wp2_with (refine wp_region_later_lit (by kernel_rfl) (by kernel_rfl) ?_; (repeat (go_big_quiet_step ((go_at_call 75; exact later_same (compare_any _ _ _))))); refine wpQuiet_nil ?_; intro w1 hb1)
  go_ret
  exact ⟨rfl, hb1⟩
theorem replicate_cut (n k : Nat) (h : k < n) : List.replicate (n - k) (0 : Int) = 0 :: List.replicate (n - (k + 1)) 0 := by
  rw [show n - k = (n - (k + 1)) + 1 by omega, List.replicate_succ]
theorem idxs_snoc (k : Nat) : idxs (k + 1) = idxs k ++ [(k : Int)] := by simp [idxs, List.range_succ]
theorem ltOf_rank (L : List Ta) : ltOf (fun x y => cmpI (priI L y) (priI L x)) = ltR L := by funext x y; unfold ltOf ltR; rw [cmpI_lt]
set_option maxRecDepth 10000 in
set_option maxHeartbeats 2000000 in
theorem ranked_any (a : Option Addr) (n c : Nat) (L : List Ta) (w : World) (hL : RdL w a n L) (hn : n < 20) :
    Calls Try.prog 43 #[.slice a n c] w (OutN w.heap.size n 3 1 w ((rankL L).flatMap enc1)) := by
  have hll := hL.length
  have HR := Lib.hid hL
  have HLL := Lib.hid hll
  clear hL hll
  go_enter Try.func43, Try.ntmps43
  go_wp2_with (at_make; refine wpList_mkI rfl _ _ rfl n rfl rfl rfl rfl (by omega) (Nat.le_refl _) ?_; intro w1 hown1 hb1 hlt1; have HO1 := Lib.hid hown1; have hc1 : w1.cell? ⟨w.heap.size, 0, none⟩ = some (.slice a n c) := (hb1.cell (p := ⟨w.heap.size, 0, none⟩) (by simp)).trans (by simp [go_sem]); have HB1 := Lib.hid hb1; clear hown1 hb1)
  simp only [World.size_alloc] at HO1 HB1 hlt1
  have HC1 := Lib.hid hc1
  clear hc1
  go_loopw [10] (fun i wr => ∃ k : Nat, k ≤ n ∧ i = .int .i64 k ∧ wr.ownsRow (w.heap.size + 1) 3 1 (.slice (some ⟨w.heap.size + 1, 0, none⟩) n n) n ((idxs k ++ List.replicate (n - k) 0).flatMap enc1) ∧ wr.cell? ⟨w.heap.size, 0, none⟩ = some (.slice a n c) ∧ w.heap.size + 1 < wr.heap.size ∧ Below w.heap.size w wr) (fun i _ => n - (intOf i).toNat)
  case atStart => exact ⟨0, Nat.zero_le _, rfl, HO1.out, HC1.out, hlt1, Below.trans (by (repeat' (first | (with_reducible exact Below.refl _ _) | (with_reducible assumption) | (with_reducible refine Below.alloc ?_ ?_ _) | (with_reducible refine Below.drew ?_) | (with_reducible refine Below.draws ?_ _) | (with_reducible refine Below.setCell ?_ ?_ _) | (refine Below.then ?_ (by with_reducible assumption)) | go_size))) (HB1.out.mono (by simp))⟩
  case round =>
    obtain ⟨k, hk, rfl, hO, hc, hz, hB⟩ := hrel
    have HO := Lib.hid hO; have HB := Lib.hid hB
    clear hO hB HO1 HC1 HB1 hlt1
    by_cases hlt : k < n
    · obtain ⟨x, hx, hcx, hfx, hqx⟩ := ownsI_at HO.out k hlt
      have HO2 : Hid ((wr.setCell ⟨w.heap.size + 1, k, none⟩ (.int .i64 k)).ownsRow (w.heap.size + 1) 3 1 (.slice (some ⟨w.heap.size + 1, 0, none⟩) n n) n ((idxs (k + 1) ++ List.replicate (n - (k + 1)) 0).flatMap enc1)) := by
        have := ownsI_set HO.out k k
        rw [List.set_append_right _ _ (by rw [idxs_len]; exact Nat.le_refl _), idxs_len, Nat.sub_self, replicate_cut n k hlt, List.set_cons_zero] at this
        rw [idxs_snoc, List.append_assoc]
        exact Lib.hid this
      clear hx
      go_wp2_with (first | go_region)
      go_roundw
      case rel => exact ⟨k + 1, by omega, by go_num, HO2.out, (World.cell?_setCell_other _ _ _ _ (fun q => by have := congrArg Addr.block q; simp only [] at this; omega)).trans hc, by simpa using hz, HB.out.setCell (p := ⟨w.heap.size + 1, k, none⟩) (by simp) _⟩
      case measure => simp [intOf]; omega
    · obtain rfl : k = n := by omega
      have hO := HO.out
      rw [Nat.sub_self, List.replicate_zero, List.append_nil] at hO
      have HO3 := Lib.hid hO
      have HCM : Hid (CmpOn 74 #[.pointer (some ⟨w.heap.size, 0, none⟩)] (fun x y => cmpI (priI L y) (priI L x)) (w.heap.size + 1) (idxs k) wr) := by
        refine Lib.hid ⟨fun args w => by kernel_rfl, fun wi x y hg hx hy => ?_⟩
        have hL' : RdL wi a k L := HR.out.ext ((HB.out).grown hg (by omega) (fun j hj => by simp at hj; omega))
        exact rcmp_any a k c w.heap.size L x y wi hL' (hg.cell hc (by simp)) (Nat.lt_of_lt_of_le (by omega) hg.size) (idxs_mem.1 hx) (idxs_mem.1 hy)
      have hcc := Lib.hid hc
      clear hO hc
      go_wp2_with (go_at_call 73; (with_reducible refine (sortStable_any _ _ _ _ _ _ _ _ _ hn HO3.out HCM.out).mono ?_); rintro e w2 ⟨rfl, ho2, hg2⟩; have HO4 := Lib.hid ho2; have HG2 := Lib.hid hg2; clear ho2 hg2)
      go_ret
      refine ⟨_, _, rfl, owns_mono ?_ (Nat.le_succ _), (HB.out).grown HG2.out (by omega) (fun j hj => by simp at hj; omega)⟩
      have := HO4.out
      rw [ltOf_rank] at this
      have e : rankL L = isortL (ltR L) (idxs k) := by unfold rankL; rw [HLL.out]
      rw [e]; exact this
end Go.Proofs.Ytmahagcghpoekaa
namespace Go.Proofs.Ytmahagcghpoekaa
open Go.RowKit
set_option linter.unusedSimpArgs false
set_option linter.unusedVariables false
/-- a list made by the call, and an error number -/
def OutTE (B : Nat) (w : World) (xs : List Int) (er : Int) (e : Ending) (w' : World) : Prop :=
  ∃ a n c, e = .returned (.tuple #[.slice a n c, .int .i64 er]) ∧ w'.ownsRow B 3 1 (.slice a n c) n (xs.flatMap enc1) ∧ Below B w w'
theorem OutTE.none {B : Nat} {w w' : World} {er : Int} (hb : Below B w w') : OutTE B w [] er (.returned (.tuple #[.slice none 0 0, .int .i64 er])) w' := ⟨_, _, _, rfl, World.ownsRow_nil _ _ _ _, hb⟩
/-- what Ranks gives, what Ceilings gives -/
def ranksR (L : List Ta) : List Int × Int := if rightB L then (rankL L, 0) else ([], 1)
def ceilsL (L : List Ta) : List Int := (List.range 6).map (fun (k : Nat) => ceilG L (k : Int))
def ceilsR (L : List Ta) : List Int × Int := if rightB L then (ceilsL L, 0) else ([], 1)
theorem rankSet_step {L : List Ta} {f i : Nat} {out R : List Int} (h : rankSet L (f + 1) i out = R) : rankSet L f (i + 1) (out.set (cnt L i) i) = R := h
theorem idxs_drop {n j : Nat} (h : j < n) : (idxs n).drop j = (j : Int) :: (idxs n).drop (j + 1) := by
  have hl : j < (idxs n).length := by rw [idxs_len]; exact h
  rw [List.drop_eq_getElem_cons hl]
  congr 1
  have := idxs_get h
  rw [List.getElem?_eq_getElem hl] at this
  exact Option.some.inj this
end Go.Proofs.Ytmahagcghpoekaa
namespace Go.Proofs.Ytmahagcghpoekaa
open Go.RowKit
set_option linter.unusedSimpArgs false
set_option linter.unusedVariables false
theorem EB : Elt Try.prog 30 26 2 16 := Elt.mk' (z := .agg #[.int .i64 0, .int .i64 0]) Try.underlying30 (by kernel_rfl) rfl (by decide)
theorem ownsP_snoc {B : Nat} {w : World} {e : Nat} {xs : List P2} {x y : Int} {v : Value} {n : Nat} (h : w.ownsRow B e 2 v n (xs.flatMap enc2 ++ [.int .i64 x, .int .i64 y])) : w.ownsRow B e 2 v n ((xs ++ [(x, y)]).flatMap enc2) := by
  rw [List.flatMap_append]; exact h
theorem ownsP_rd {B : Nat} {w : World} {e : Nat} {xs : List P2} {a : Option Addr} {n c : Nat} (h : w.ownsRow B e 2 (.slice a n c) n (xs.flatMap enc2)) : Rd w a n 2 (xs.map enc2) := Rd.of_owns enc2_len (by decide) h
/-- a task of valid tasks -/
def isTk (L : List Ta) (t : Int) : Bool := rightB L && inB t 0 ((L.length : Int) - 1)
theorem isTk_iff {L : List Ta} {t : Int} : isTk L t = true ↔ rightB L = true ∧ 0 ≤ t ∧ t < L.length := by
  unfold isTk; rw [Bool.and_eq_true, inB_iff]; constructor <;> (rintro ⟨h1, h2, h3⟩; exact ⟨h1, by omega, by omega⟩)
def blksR (L : List Ta) (t : Int) : List P2 × Int := if isTk L t then (blockL L t, 0) else ([], 1)
theorem blkP_len (L : List Ta) (t j : Int) : ∀ (ps : List P2) (k : Nat), (blkP L t j k ps).length ≤ ps.length
  | [], _ => by simp [blkP]
  | p :: ps, k => by
    have := blkP_len L t j ps (k + 1)
    rw [blkP]; split <;> simp <;> omega
theorem taAt_mem {L : List Ta} {k : Nat} (h : k < L.length) : taAt L k ∈ L := by
  rw [taAt_of (List.getElem?_eq_getElem h)]; exact List.getElem_mem h
theorem blkFrom_len {L : List Ta} (hv : Right L) (t : Int) : ∀ (f j : Nat), j + f ≤ L.length → (blkFrom L t f j).length ≤ 8 * f
  | 0, _, _ => by simp [blkFrom]
  | f + 1, j, h => by
    have h1 := blkFrom_len hv t f (j + 1) (by omega)
    have h2 := blkP_len L t j (taAt L j).pcs 0
    have h3 := (hv.pcs _ (taAt_mem (L := L) (k := j) (by omega))).2
    rw [blkFrom, List.length_append]
    split
    · omega
    · simp; omega
theorem blockL_len {L : List Ta} (hv : Right L) (t : Int) : (blockL L t).length ≤ 40 := by
  have := blkFrom_len hv t L.length 0 (by omega)
  have := hv.len
  unfold blockL; omega
def OutBE (B : Nat) (w : World) (xs : List P2) (er : Int) (e : Ending) (w' : World) : Prop :=
  ∃ a n c, e = .returned (.tuple #[.slice a n c, .int .i64 er]) ∧ w'.ownsRow B 26 2 (.slice a n c) n (xs.flatMap enc2) ∧ Below B w w'
theorem OutBE.none {B : Nat} {w w' : World} {er : Int} (hb : Below B w w') : OutBE B w [] er (.returned (.tuple #[.slice none 0 0, .int .i64 er])) w' := ⟨_, _, _, rfl, World.ownsRow_nil _ _ _ _, hb⟩
theorem blkFrom_step {L : List Ta} {t : Int} {f j : Nat} : blkFrom L t (f + 1) j = (if aheadB L t j = true then blkP L t j 0 (taAt L j).pcs else []) ++ blkFrom L t f (j + 1) := rfl
theorem Rd.piece {w : World} {a : Option Addr} {n : Nat} {ps : List P2} (h : Rd w a n 2 (ps.map enc2)) (k : Nat) (hk : k < n) : ∃ (p : P2) (b off : Nat), a = some ⟨b, off, none⟩ ∧ b < w.heap.size ∧
    w.cell? ⟨b, off + k * 2, none⟩ = some (.int .i64 p.1) ∧ w.cell? ⟨b, off + k * 2 + 1, none⟩ = some (.int .i64 p.2) ∧ ps[k]? = some p ∧ Hid (ps.drop k = p :: ps.drop (k + 1)) := by
  obtain ⟨hl, b, off, rfl, hb, h1, h2⟩ := h.two k hk
  exact ⟨_, b, off, rfl, hb, h1, h2, List.getElem?_eq_getElem hl, List.drop_eq_getElem_cons hl⟩
end Go.Proofs.Ytmahagcghpoekaa
namespace Go.Proofs.Ytmahagcghpoekaa
open Go.RowKit
set_option linter.unusedSimpArgs false
set_option linter.unusedVariables false
def blkgR (L : List Ta) (t : Int) : Int × Int := if isTk L t then (blockN L t, 0) else (0, 1)
def maxB (L : List Ta) (m : Int) (bs : List P2) : Int := bs.foldl (fun m b => max m (ticksAt L b)) m
theorem maxB_cons (L : List Ta) (m : Int) (b : P2) (bs : List P2) : maxB L m (b :: bs) = maxB L (max m (ticksAt L b)) bs := rfl
/-- what a blocker says about the tasks in memory -/
theorem RdL.blk {w : World} {a : Option Addr} {n : Nat} {L : List Ta} {t : Int} {b : P2} (h : RdL w a n L) (hb : IsBlk L t b) : ∃ (j k : Nat) (g off pb poff : Nat) (pn pc : Nat) (p : P2), b = ((j : Int), (k : Int)) ∧ j < n ∧ k < pn ∧ a = some ⟨g, off, none⟩ ∧ g < w.heap.size ∧ pb < w.heap.size ∧
    w.cell? ⟨g, off + j * 6 + 5, none⟩ = some (.slice (some ⟨pb, poff, none⟩) pn pc) ∧ w.cell? ⟨pb, poff + k * 2, none⟩ = some (.int .i64 p.1) ∧ w.cell? ⟨pb, poff + k * 2 + 1, none⟩ = some (.int .i64 p.2) ∧ ticksAt L b = p.1 ∧ pn ≤ 9223372036854775807 := by
  obtain ⟨j, hj⟩ := Int.eq_ofNat_of_zero_le hb.j0
  obtain ⟨k, hk⟩ := Int.eq_ofNat_of_zero_le hb.k0
  have hjn : j < n := by have := hb.j1; rw [h.length, hj] at this; omega
  obtain ⟨u, g, off, pa, pn, pc, rfl, hg, c0, c1, c2, c3, c4, c5, hp, _, hget, _⟩ := h.at_ j hjn
  have hkn : k < pn := by
    have := hb.k1
    rw [hj, taAt_of hget, hp.length, hk] at this
    omega
  obtain ⟨p, pb, poff, rfl, hpb, e1, e2, hpg, _⟩ := hp.piece k hkn
  refine ⟨j, k, g, off, pb, poff, pn, pc, p, by rw [← hj, ← hk], hjn, hkn, rfl, hg, hpb, c5, e1, e2, ?_, hp.small⟩
  rw [ticksAt, hj, taAt_of hget, hk, Int.toNat_natCast, hpg]; rfl
/-- what Raised gives -/
def raisedR (L : List Ta) (t p : Int) : Int × Int :=
  if isTk L t && inB p 0 (((taAt L t).pcs.length : Int) - 1) then
    (if ((((taAt L t).pcs)[p.toNat]?).getD default).2 < 0 then t else ceilG L ((((taAt L t).pcs)[p.toNat]?).getD default).2, 0)
  else (0, 1)
end Go.Proofs.Ytmahagcghpoekaa
namespace Go.Proofs.Ytmahagcghpoekaa
open Go.RowKit
set_option linter.unusedSimpArgs false
set_option linter.unusedVariables false
/-- where the parts of a run lie -/
structure RunH where
  tA : Option Addr
  tN : Nat
  tC : Nat
  eA : Option Addr
  eN : Nat
  eC : Nat
  bA : Option Addr
  bN : Nat
  bC : Nat
  sA : Option Addr
  sN : Nat
  sC : Nat
def evAt (evs : List (List P2)) (k : Nat) : List P2 := (evs[k]?).getD []
/-- a slice of lists of pairs -/
structure Evs (w : World) (a : Option Addr) (n : Nat) (evs : List (List P2)) : Prop where
  len : evs.length = n
  sm : n ≤ 9223372036854775807
  at_ : ∀ k, k < n → ∃ (b off : Nat) (ea : Option Addr) (en ec : Nat), a = some ⟨b, off, none⟩ ∧ b < w.heap.size ∧ w.cell? ⟨b, off + k, none⟩ = some (.slice ea en ec) ∧ Rd w ea en 2 ((evAt evs k).map enc2)
theorem Evs.ext {w w' : World} {a : Option Addr} {n : Nat} {evs : List (List P2)} (h : Evs w a n evs) (hb : Below w.heap.size w w') : Evs w' a n evs :=
  ⟨h.len, h.sm, fun k hk => by
    obtain ⟨b, off, ea, en, ec, e, h1, h2, h3⟩ := h.at_ k hk
    exact ⟨b, off, ea, en, ec, e, Nat.lt_of_lt_of_le h1 hb.size, (hb.cell (p := ⟨b, off + k, none⟩) h1).trans h2, h3.ext hb⟩⟩
structure RdRun (w : World) (H : RunH) (R : Rn) : Prop where
  t : RdL w H.tA H.tN R.L
  e : Evs w H.eA H.eN R.ev
  b : Rd w H.bA H.bN 1 (R.bu.map enc1)
  s : Rd w H.sA H.sN 2 (R.sg.map enc2)
theorem RdRun.ext {w w' : World} {H : RunH} {R : Rn} (h : RdRun w H R) (hb : Below w.heap.size w w') : RdRun w' H R := ⟨h.t.ext hb, h.e.ext hb, h.b.ext hb, h.s.ext hb⟩
def encE (e : En) : List Value := [.int .i64 e.m, .int .i64 e.k, .int .i64 e.w, .int .i64 e.a, .int .i64 e.b]
theorem encE_len (e : En) : (encE e).length = 5 := rfl
def encJ (j : Jb) : List Value := [.int .i64 j.p, .int .i64 j.t, .int .i64 j.d, .bool j.s]
theorem EEn : Elt Try.prog 34 43 5 40 := Elt.mk' (z := .agg #[.int .i64 0, .int .i64 0, .int .i64 0, .int .i64 0, .int .i64 0]) Try.underlying34 (by kernel_rfl) rfl (by decide)
/-- the machine's boxes -/
structure MPar where
  w0 : World
  H : RunH
  R : Rn
  K : Nat
  p : Nat
  W : Nat
  J : Nat
  rb : Nat
  O : List Int
structure MLay (M : MPar) : Prop where
  p : M.w0.heap.size ≤ M.p ∧ M.p < M.K
  W : M.w0.heap.size ≤ M.W ∧ M.W < M.K
  J : M.w0.heap.size ≤ M.J ∧ M.J < M.K
  r : M.w0.heap.size ≤ M.rb ∧ M.rb < M.K
  ne : M.p ≠ M.W ∧ M.p ≠ M.J ∧ M.p ≠ M.rb ∧ M.W ≠ M.J ∧ M.W ≠ M.rb ∧ M.J ≠ M.rb
structure Mach (M : MPar) (w : World) (s : Ms) : Prop where
  c0 : w.cell? ⟨M.p, 0, none⟩ = some (.slice M.H.tA M.H.tN M.H.tC)
  c1 : w.cell? ⟨M.p, 1, none⟩ = some (.int .i64 M.R.fr)
  c2 : w.cell? ⟨M.p, 2, none⟩ = some (.int .i64 M.R.sl)
  c3 : w.cell? ⟨M.p, 3, none⟩ = some (.slice M.H.eA M.H.eN M.H.eC)
  c4 : w.cell? ⟨M.p, 4, none⟩ = some (.slice M.H.bA M.H.bN M.H.bC)
  c5 : w.cell? ⟨M.p, 5, none⟩ = some (.slice M.H.sA M.H.sN M.H.sC)
  c6 : w.cell? ⟨M.p, 6, none⟩ = some (.slice (some ⟨M.rb, 0, none⟩) M.R.L.length M.R.L.length)
  c7 : w.cell? ⟨M.p, 7, none⟩ = some (.slice (some ⟨M.W, 0, none⟩) M.R.L.length M.R.L.length)
  c8 : w.cell? ⟨M.p, 8, none⟩ = some (.slice (some ⟨M.J, 0, none⟩) M.R.L.length M.R.L.length)
  fp : ∀ j, w.frozen? ⟨M.p, j, none⟩ = false
  en : ∃ (a : Option Addr) (m c : Nat), w.cell? ⟨M.p, 9, none⟩ = some (.slice a m c) ∧ w.ownsRow M.K 43 5 (.slice a m c) m (s.o.flatMap encE)
  rk : ∀ i, i < M.R.L.length → ∃ x, M.O[i]? = some x ∧ w.cell? ⟨M.rb, i, none⟩ = some (.int .i64 x)
  fr : ∀ j, w.frozen? ⟨M.rb, j, none⟩ = false
  qu : ∃ h : Nat → Hdr, (∀ i, i < M.R.L.length → w.cell? ⟨M.W, i, none⟩ = some (sl (h i))) ∧ IRows M.K w M.R.L.length h s.qa
  fw : ∀ j, w.frozen? ⟨M.W, j, none⟩ = false
  jb : ∀ i, i < M.R.L.length → ∀ j, j < 4 → w.cell? ⟨M.J, i * 4 + j, none⟩ = (encJ (s.ja i))[j]?
  fj : ∀ j, w.frozen? ⟨M.J, j, none⟩ = false
  kl : M.K ≤ w.heap.size
  ql : s.q.length = M.R.L.length
  jl : s.j.length = M.R.L.length
  lb : Below M.w0.heap.size M.w0 w
theorem addr_neS {b b' i j : Nat} (h : b ≠ b' ∨ i ≠ j) : (⟨b, i, none⟩ : Addr) ≠ ⟨b', j, none⟩ := by
  intro q; rcases h with h | h
  · exact h (congrArg Addr.block q)
  · exact h (congrArg Addr.off q)
section
variable {M : MPar} {w w' : World} {s s' : Ms}
/-- all but the entries and the queues -/
theorem Mach.keep (h : Mach M w s) (hl : MLay M) (hb : Below M.K w w')
    (hen : ∃ (a : Option Addr) (m c : Nat), w'.cell? ⟨M.p, 9, none⟩ = some (.slice a m c) ∧ w'.ownsRow M.K 43 5 (.slice a m c) m (s'.o.flatMap encE))
    (hq : ∃ h : Nat → Hdr, (∀ i, i < M.R.L.length → w'.cell? ⟨M.W, i, none⟩ = some (sl (h i))) ∧ IRows M.K w' M.R.L.length h s'.qa) (hj : s'.j = s.j) (hql : s'.q.length = s.q.length) : Mach M w' s' := by
  have cp : ∀ j, w'.cell? ⟨M.p, j, none⟩ = w.cell? ⟨M.p, j, none⟩ := fun j => hb.cell (p := ⟨M.p, j, none⟩) hl.p.2
  have hja : ∀ i, s'.ja i = s.ja i := fun i => by unfold Ms.ja; rw [hj]
  exact ⟨(cp 0).trans h.c0, (cp 1).trans h.c1, (cp 2).trans h.c2, (cp 3).trans h.c3, (cp 4).trans h.c4, (cp 5).trans h.c5, (cp 6).trans h.c6, (cp 7).trans h.c7, (cp 8).trans h.c8,
    fun j => (hb.frozen (p := ⟨M.p, j, none⟩) hl.p.2).trans (h.fp j), hen,
    fun i hi => by obtain ⟨x, h1, h2⟩ := h.rk i hi; exact ⟨x, h1, (hb.cell (p := ⟨M.rb, i, none⟩) hl.r.2).trans h2⟩,
    fun j => (hb.frozen (p := ⟨M.rb, j, none⟩) hl.r.2).trans (h.fr j), hq, fun j => (hb.frozen (p := ⟨M.W, j, none⟩) hl.W.2).trans (h.fw j),
    fun i hi j hj4 => by rw [hja]; exact (hb.cell (p := ⟨M.J, i * 4 + j, none⟩) hl.J.2).trans (h.jb i hi j hj4), fun j => (hb.frozen (p := ⟨M.J, j, none⟩) hl.J.2).trans (h.fj j),
    Nat.le_trans h.kl hb.size, hql.trans h.ql, by rw [hj]; exact h.jl, h.lb.trans (hb.mono (Nat.le_trans hl.p.1 (Nat.le_of_lt hl.p.2)))⟩
theorem Mach.ext (h : Mach M w s) (hl : MLay M) (hb : Below w.heap.size w w') : Mach M w' s := by
  have hk := h.kl
  have hp := hl.p
  have hW := hl.W
  refine h.keep hl (hb.mono hk) ?_ ?_ rfl rfl
  · obtain ⟨a, m, c, h1, h2⟩ := h.en
    exact ⟨a, m, c, (hb.cell (p := ⟨M.p, 9, none⟩) (by simp only []; omega)).trans h1, owns_ext h2 hb⟩
  · obtain ⟨g, h1, h2⟩ := h.qu
    exact ⟨g, fun i hi => (hb.cell (p := ⟨M.W, i, none⟩) (by simp only []; omega)).trans (h1 i hi), h2.ext hb⟩
/-- an entry has been laid -/
theorem Mach.entry (h : Mach M w s) (hl : MLay M) {a a' : Option Addr} {m c c' : Nat} {e : En} {o : Obj} (h1 : w.cell? ⟨M.p, 9, none⟩ = some (.slice a m c)) (h2 : w.ownsRow M.K 43 5 (.slice a m c) m (s.o.flatMap encE))
    (hown : w'.ownsRow M.K 43 5 (.slice a' (m + 1) c') (m + 1) (s.o.flatMap encE ++ encE e)) (hg : (w.alloc o).grownBy w' (Value.slice a m c).ownBlock) :
    Mach M (w'.setCell ⟨M.p, 9, none⟩ (.slice a' (m + 1) c')) (s.wr e) := by
  have hk := h.kl
  have hp := hl.p
  have hb : Below M.K w w' := ((Below.refl M.K w).alloc hk o).trans (grown_below (h2.alloc o) hg (by rw [World.size_alloc]; omega))
  have hq : ∃ g : Nat → Hdr, (∀ i, i < M.R.L.length → w'.cell? ⟨M.W, i, none⟩ = some (sl (g i))) ∧ IRows M.K w' M.R.L.length g s.qa := by
    obtain ⟨g, g1, g2⟩ := h.qu
    exact ⟨g, fun i hi => (hb.cell (p := ⟨M.W, i, none⟩) hl.W.2).trans (g1 i hi), ⟨fun i hi => owns_kept ((g2.own i hi).alloc o) (h2.alloc o) (by decide) hg, g2.apart⟩⟩
  have h9 : w'.cell? ⟨M.p, 9, none⟩ = some (.slice a m c) := (hb.cell (p := ⟨M.p, 9, none⟩) hp.2).trans h1
  have cp : ∀ j, j ≠ 9 → (w'.setCell ⟨M.p, 9, none⟩ (.slice a' (m + 1) c')).cell? ⟨M.p, j, none⟩ = w.cell? ⟨M.p, j, none⟩ := fun j hj => (World.cell?_setCell_other _ _ _ _ (addr_neS (.inr (fun q => hj q.symm)))).trans (hb.cell (p := ⟨M.p, j, none⟩) hp.2)
  have co : ∀ b j, b ≠ M.p → (w'.setCell ⟨M.p, 9, none⟩ (.slice a' (m + 1) c')).cell? ⟨b, j, none⟩ = w'.cell? ⟨b, j, none⟩ := fun b j hb => World.cell?_setCell_other _ _ _ _ (addr_neS (.inl (fun q => hb q.symm)))
  obtain ⟨n1, n2, n3, n4, n5, n6⟩ := hl.ne
  refine ⟨(cp 0 (by decide)).trans h.c0, (cp 1 (by decide)).trans h.c1, (cp 2 (by decide)).trans h.c2, (cp 3 (by decide)).trans h.c3, (cp 4 (by decide)).trans h.c4, (cp 5 (by decide)).trans h.c5, (cp 6 (by decide)).trans h.c6, (cp 7 (by decide)).trans h.c7, (cp 8 (by decide)).trans h.c8,
    fun j => by rw [World.frozen?_setCell]; exact (hb.frozen (p := ⟨M.p, j, none⟩) hp.2).trans (h.fp j), ⟨a', m + 1, c', World.cell?_setCell_same _ _ _ h9, ?_⟩,
    fun i hi => ?_, fun j => by rw [World.frozen?_setCell]; exact (hb.frozen (p := ⟨M.rb, j, none⟩) hl.r.2).trans (h.fr j), ?_, fun j => by rw [World.frozen?_setCell]; exact (hb.frozen (p := ⟨M.W, j, none⟩) hl.W.2).trans (h.fw j),
    fun i hi j hj4 => ?_, fun j => by rw [World.frozen?_setCell]; exact (hb.frozen (p := ⟨M.J, j, none⟩) hl.J.2).trans (h.fj j), by have := hb.size; simp; omega, h.ql, h.jl, ?_⟩
  · have : (s.wr e).o.flatMap encE = s.o.flatMap encE ++ encE e := by simp [Ms.wr]
    rw [this]
    exact owns_far hown hp.2 _
  · obtain ⟨x, g1, g2⟩ := h.rk i hi
    exact ⟨x, g1, (co M.rb i (fun q => n3 q.symm)).trans ((hb.cell (p := ⟨M.rb, i, none⟩) hl.r.2).trans g2)⟩
  · obtain ⟨g, g1, g2⟩ := hq
    exact ⟨g, fun i hi => (co M.W i (fun q => n1 q.symm)).trans (g1 i hi), g2.far hp.2 _⟩
  · exact (co M.J _ (fun q => n2 q.symm)).trans ((hb.cell (p := ⟨M.J, i * 4 + j, none⟩) hl.J.2).trans (h.jb i hi j hj4))
  · exact (h.lb.trans (hb.mono (by omega))).setCell (p := ⟨M.p, 9, none⟩) hp.1 _
/-- a cell of a job has been laid -/
theorem Mach.job (h : Mach M w s) (hl : MLay M) {i : Nat} (hi : i < M.R.L.length) {j : Nat} (hj : j < 4) {v : Value} {b : Jb} (he : encJ b = (encJ (s.ja i)).set j v) :
    Mach M (w.setCell ⟨M.J, i * 4 + j, none⟩ v) { s with j := s.j.set i b } := by
  have hk := h.kl
  obtain ⟨n1, n2, n3, n4, n5, n6⟩ := hl.ne
  have co : ∀ b k, b ≠ M.J → (w.setCell ⟨M.J, i * 4 + j, none⟩ v).cell? ⟨b, k, none⟩ = w.cell? ⟨b, k, none⟩ := fun b k hb => World.cell?_setCell_other _ _ _ _ (addr_neS (.inl (fun q => hb q.symm)))
  have cp := fun k => co M.p k n2
  refine ⟨(cp 0).trans h.c0, (cp 1).trans h.c1, (cp 2).trans h.c2, (cp 3).trans h.c3, (cp 4).trans h.c4, (cp 5).trans h.c5, (cp 6).trans h.c6, (cp 7).trans h.c7, (cp 8).trans h.c8,
    fun k => by rw [World.frozen?_setCell]; exact h.fp k, ?_, fun k hk => ?_, fun k => by rw [World.frozen?_setCell]; exact h.fr k, ?_, fun k => by rw [World.frozen?_setCell]; exact h.fw k, fun k hk k' hk4 => ?_, fun k => by rw [World.frozen?_setCell]; exact h.fj k,
    by simpa using hk, h.ql, by simpa using h.jl, h.lb.setCell (p := ⟨M.J, i * 4 + j, none⟩) hl.J.1 _⟩
  · obtain ⟨a, m, c, g1, g2⟩ := h.en
    exact ⟨a, m, c, (cp 9).trans g1, owns_far g2 hl.J.2 _⟩
  · obtain ⟨x, g1, g2⟩ := h.rk k hk
    exact ⟨x, g1, (co M.rb k (fun q => n6 q.symm)).trans g2⟩
  · obtain ⟨g, g1, g2⟩ := h.qu
    exact ⟨g, fun k hk => (co M.W k n4).trans (g1 k hk), g2.far hl.J.2 _⟩
  · rw [ja_set (by rw [h.jl]; exact hi)]
    by_cases e : k = i
    · subst e
      rw [if_pos rfl, he, List.getElem?_set]
      by_cases e2 : j = k'
      · subst e2
        rw [if_pos rfl, if_pos (by simpa [encJ] using hj)]
        have := h.jb k hk j hj
        have hlt : j < (encJ (s.ja k)).length := by simpa [encJ] using hj
        rw [List.getElem?_eq_getElem hlt] at this
        exact World.cell?_setCell_same _ _ _ this
      · rw [if_neg e2]
        exact (World.cell?_setCell_other _ _ _ _ (addr_neS (.inr (by omega)))).trans (h.jb k hk k' hk4)
    · rw [if_neg e]
      exact (World.cell?_setCell_other _ _ _ _ (addr_neS (.inr (by omega)))).trans (h.jb k hk k' hk4)
/-- a queue has been laid anew: the row i, its header -/
theorem Mach.queue (h : Mach M w s) (hl : MLay M) {i : Nat} (hi : i < M.R.L.length) {g : Nat → Hdr} {d : Hdr} {q : List Int} (hb : Below M.K w w')
    (hen : ∀ (a : Option Addr) (m c : Nat), w.ownsRow M.K 43 5 (.slice a m c) m (s.o.flatMap encE) → w'.ownsRow M.K 43 5 (.slice a m c) m (s.o.flatMap encE))
    (hg : ∀ k, k < M.R.L.length → w.cell? ⟨M.W, k, none⟩ = some (sl (g k))) (hr : IRows M.K w' M.R.L.length (updF g i d) (updF s.qa i q)) :
    Mach M (w'.setCell ⟨M.W, i, none⟩ (sl d)) { s with q := s.q.set i q } := by
  have hk := h.kl
  have hp := hl.p
  obtain ⟨n1, n2, n3, n4, n5, n6⟩ := hl.ne
  have co : ∀ b k, b ≠ M.W → b < M.K → (w'.setCell ⟨M.W, i, none⟩ (sl d)).cell? ⟨b, k, none⟩ = w.cell? ⟨b, k, none⟩ := fun b k hbn hbk => (World.cell?_setCell_other _ _ _ _ (addr_neS (.inl (fun q => hbn q.symm)))).trans (hb.cell (p := ⟨b, k, none⟩) hbk)
  have cp := fun k => co M.p k n1 hp.2
  refine ⟨(cp 0).trans h.c0, (cp 1).trans h.c1, (cp 2).trans h.c2, (cp 3).trans h.c3, (cp 4).trans h.c4, (cp 5).trans h.c5, (cp 6).trans h.c6, (cp 7).trans h.c7, (cp 8).trans h.c8,
    fun k => by rw [World.frozen?_setCell]; exact (hb.frozen (p := ⟨M.p, k, none⟩) hp.2).trans (h.fp k), ?_, fun k hk => ?_, fun k => by rw [World.frozen?_setCell]; exact (hb.frozen (p := ⟨M.rb, k, none⟩) hl.r.2).trans (h.fr k), ?_,
    fun k => by rw [World.frozen?_setCell]; exact (hb.frozen (p := ⟨M.W, k, none⟩) hl.W.2).trans (h.fw k), fun k hk k' hk4 => (co M.J _ (fun q => n4 q.symm) hl.J.2).trans (h.jb k hk k' hk4), fun k => by rw [World.frozen?_setCell]; exact (hb.frozen (p := ⟨M.J, k, none⟩) hl.J.2).trans (h.fj k),
    by have := hb.size; simp; omega, by simpa using h.ql, h.jl, (h.lb.trans (hb.mono (by omega))).setCell (p := ⟨M.W, i, none⟩) hl.W.1 _⟩
  · obtain ⟨a, m, c, g1, g2⟩ := h.en
    exact ⟨a, m, c, (cp 9).trans g1, owns_far (hen a m c g2) hl.W.2 _⟩
  · obtain ⟨x, g1, g2⟩ := h.rk k hk
    exact ⟨x, g1, (co M.rb k (fun q => n5 q.symm) hl.r.2).trans g2⟩
  · refine ⟨updF g i d, fun k hk => ?_, ?_⟩
    · by_cases e : k = i
      · subst e
        rw [updF_same]
        exact World.cell?_setCell_same _ _ _ ((hb.cell (p := ⟨M.W, k, none⟩) hl.W.2).trans (hg k hk))
      · rw [updF_other _ _ e]
        exact (World.cell?_setCell_other _ _ _ _ (addr_neS (.inr (fun q => e q.symm)))).trans ((hb.cell (p := ⟨M.W, k, none⟩) hl.W.2).trans (hg k hk))
    · have e : Ms.qa { s with q := s.q.set i q } = updF s.qa i q := by
        funext k
        rw [qa_set (q := s.q) (by rw [h.ql]; exact hi)]
        rfl
      rw [e]
      exact hr.far hl.W.2 _
end
end Go.Proofs.Ytmahagcghpoekaa
namespace Go.Proofs.Ytmahagcghpoekaa
open Go.RowKit
theorem wpList_pushM {P : Program} {ops : Array Oper} {rest : List Oper} {o : Oper} {a : Act} {Q : Exit → Act → World → Prop} {w : World} {T : TypeId} {arr : Array Value} {N : Nat} (hN : N = w.heap.size) (hgd : o.guard = none) (s x : Operand) (t : TypeId)
    (ho : o.op = .call { callee := .builtin .append, args := #[s, x], argTypes := #[t, t] }) {e k bytes B n c : Nat} (E : Elt P t e k bytes) {v : Value} {xs : List Value}
    (hs : a.eval s = v) (hown : w.ownsRow B e k v n xs) (hx : a.eval x = .slice (some ⟨N, 0, none⟩) 1 c) (harr : arr.size = k) (h1 : ∀ u ∈ arr.toList, u.oneCell' = true)
    (hn : n ≤ 100000000) (hby : bytes ≤ 1000) (hB : B ≤ w.heap.size)
    (h : ∀ a' c' w', w'.ownsRow B e k (.slice a' (n + 1) c') (n + 1) (xs ++ arr.toList) → (w.alloc (.cells arr T)).grownBy w' v.ownBlock → wpList P ops Q rest (a.put o.dst (.slice a' (n + 1) c')) w') :
    wpList P ops Q (o :: rest) a (w.alloc (.cells arr T)) := by
  subst hN
  obtain ⟨i, z, h2, h3, h4, h5, h6⟩ := E.hi
  refine wpList_append_own (w.alloc (.cells arr T)) hgd s x t ho B e i z k bytes E.ht h2 h3 h4 h5 h6 E.hk v n xs hs (hown.alloc _) ⟨w.heap.size, 0, none⟩ 1 c arr.toList hx (by simpa using harr) ?_ h1 (by unfold maxLen; omega) ?_ (by simp; omega) ?_
  · intro j u hj
    have : (w.alloc (.cells arr T)).cell? ⟨w.heap.size, j, none⟩ = arr[j]? := World.cell?_alloc_new w arr T j
    have e : (⟨w.heap.size, 0, none⟩ : Addr).add j = ⟨w.heap.size, j, none⟩ := by unfold Addr.add; split <;> simp_all
    rw [e, this]; simpa using hj
  · have : (n + 1) * bytes ≤ 100000001 * 1000 := Nat.mul_le_mul (by omega) hby
    omega
  · intro v' w' hown' hg _
    obtain ⟨hl, h7⟩ := hown'
    rcases h7 with ⟨_, h8⟩ | ⟨g, cap, cur, rfl, h9⟩
    · omega
    · exact h _ _ _ ⟨hl, .inr ⟨g, cap, cur, rfl, h9⟩⟩ hg
end Go.Proofs.Ytmahagcghpoekaa
