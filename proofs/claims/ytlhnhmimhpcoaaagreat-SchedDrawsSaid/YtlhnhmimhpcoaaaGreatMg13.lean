/- The contracts of bits.Mul and slices.Repeat at one int. The conditions: the row reads as named. When jobs are over: the entries that say so. No condition: plain lemmas. The contract of the program's ends. The conditions: the run and the entries read as named. The contract of the reference's Ends. The conditions: the run reads as named. The contracts of Late and Meets, of both sides. The conditions: the run reads as named. -/
import Derived.Test.YtlhnhmimhpcoaaaGreatMg3
import Derived.Shelf.Bits.Mul64
import Derived.Laws.CopyOwn
import Derived.Deep.RegionLaw
import Derived.Deep.Cut
import Derived.IntWalk
import Derived.Test.YtlhnhmimhpcoaaaGreatMg9
import Derived.Test.YtlhnhmimhpcoaaaGreatMg8
import Derived.Test.YtlhnhmimhpcoaaaGreatMg12
import Derived.Deep.RegionHeld3
import Derived.OwnWalk
namespace Go.Proofs.YtlhnhmimhpcoaaaGreat
open Go.RowKit
set_option linter.unusedSimpArgs false
set_option linter.unusedVariables false
def mulRen : Go.Shelf.Ren := ⟨fun | 212 => 46 | 263 => 84 | 264 => 85 | n => n, fun | 46 => 94 | 51 => 136 | 53 => 139 | 146 => 137 | 148 => 140 | n => n, fun n => n⟩
theorem mulLay : Go.Proofs.Lays.n212 Tryz.prog mulRen := {
  mixed := by kernel_rfl
  f212 := Tryz.func46.trans (congrArg some (by kernel_rfl))
  f263 := Tryz.func84.trans (congrArg some (by kernel_rfl))
  f264 := Tryz.func85.trans (congrArg some (by kernel_rfl))
  t46 := Tryz.underlying94
  a46 := Tryz.isAgg94
  z46 := Tryz.sizeOf94
  v46 := Tryz.zeroValue94
  t51 := Tryz.underlying136
  a51 := Tryz.isAgg136
  z51 := Tryz.sizeOf136
  v51 := Tryz.zeroValue136
  t53 := Tryz.underlying139
  a53 := Tryz.isAgg139
  z53 := Tryz.sizeOf139
  v53 := Tryz.zeroValue139
  t146 := Tryz.underlying137
  a146 := Tryz.isAgg137
  z146 := Tryz.sizeOf137
  v146 := Tryz.zeroValue137
  t148 := Tryz.underlying140
  a148 := Tryz.isAgg140
  z148 := Tryz.sizeOf140
  v148 := Tryz.zeroValue140 }
theorem mul_one (n : Nat) (w : World) (hn : n ≤ 1000) : Calls Tryz.prog 46 #[.int .u64 1, .int .u64 n] w fun e w' => e = .returned (.tuple #[.int .u64 0, .int .u64 n]) ∧ w = w' := by
  refine (Go.Proofs.Any.bits_Mul mulLay 1 n (by omega) (by omega) w).mono ?_
  rintro e w' ⟨rfl, rfl⟩
  refine ⟨?_, rfl⟩
  rw [Nat.one_mul, Nat.div_eq_of_lt (by omega), Nat.mod_eq_of_lt (by omega)]; rfl
theorem run_copyI {w : World} {g off dLen dCap : Nat} {ad : Addr} {sLen sCap : Nat} {cur cs : List Value} {t : TypeId} (hg : w.heap[g]? = some (.cells cur.toArray t (0, 0))) (hn : cs.length = Nat.min sLen dLen)
    (hsrc : ∀ j v, cs[j]? = some v → w.cell? (ad.add j) = some v) (hfit : off + cs.length ≤ cur.length) (h1 : ∀ v ∈ cs, v.oneCell' = true) :
    ∃ w', (Builtin.copy_ #[26, 26] 3 #[.slice (some ⟨g, off, none⟩) dLen dCap, .slice (some ad) sLen sCap]).run Tryz.prog w = .ok (goInt cs.length) w' ∧ w'.heap[g]? = some (.cells (splice cur off cs).toArray t (0, 0)) ∧ (∀ B, B ≤ g → Below B w w') := by
  refine ⟨_, run_copy_row (P := Tryz.prog) w 26 26 3 3 g off dLen dCap ad sLen sCap cur.toArray t cs Tryz.underlying26 (by kernel_rfl) hg hn hsrc (by simpa using hfit) h1, ?_, fun B hB => below_setRow (Below.refl B w) hB _⟩
  simpa [splice] using setRow_heap w g _ _ t _ hg
theorem rep_splice (v z : Value) (j m n : Nat) (h : j + m ≤ n) : splice (List.replicate j v ++ List.replicate (n - j) z) j (List.replicate m v) = List.replicate (j + m) v ++ List.replicate (n - (j + m)) z := by
  unfold splice
  rw [List.length_replicate, List.take_append_of_le_length (by simp), List.take_of_length_le (by simp), List.drop_append, List.drop_of_length_le (by simp), List.nil_append, List.length_replicate, List.drop_replicate, ← List.append_assoc, List.replicate_append_replicate]
  congr 2
  omega
theorem rep_get (v z : Value) {j n i : Nat} (h : i < j) : (List.replicate j v ++ List.replicate (n - j) z)[i]? = some v := by
  rw [List.getElem?_append_left (by simpa using h), List.getElem?_replicate, if_pos h]
set_option maxRecDepth 10000 in
set_option maxHeartbeats 2000000 in
theorem repeat_any (b n c : Nat) (w : World) (hn : n ≤ 1000) (hb : w.cell? ⟨b, 0, none⟩ = some (.int .i64 (-1))) :
    Calls Tryz.prog 45 #[.slice (some ⟨b, 0, none⟩) 1 c, .int .i64 n] w fun e w' => ∃ g : Nat, e = .returned (.slice (some ⟨g, 0, none⟩) n n) ∧ w'.ownsRow w.heap.size 3 1 (.slice (some ⟨g, 0, none⟩) n n) n ((List.replicate n (-1 : Int)).flatMap enc1) ∧ Below w.heap.size w w' := by
  have wu : IntKind.u64.wrap (n : Int) = (n : Int) := by rw [IntKind.wrap_u64]; omega
  have wi : IntKind.i64.wrap (n : Int) = (n : Int) := IntWalk.i64_in _ (by omega)
  have HM := Lib.hid (mul_one n w hn)
  have hbl := World.block_lt_of_cell? w _ hb
  simp only [] at hbl
  have hnn : ¬ (n : Int) < 0 := by omega
  have hnb : ¬ (9223372036854775807 : Int) < (n : Int) := by omega
  go_enter Tryz.func45, Tryz.ntmps45
  go_upto_region 7 with (first
    | (go_at_call 46; (with_reducible refine HM.out.mono ?_); rintro e w1 ⟨rfl, rfl⟩)
    | (at_make; refine wpList_mkI rfl _ _ rfl n rfl rfl rfl rfl (by omega) (Nat.le_refl _) ?_; intro w2 hown2 hb2 hz2; have HO2 := Lib.hid hown2; have HB2 := Lib.hid hb2; clear hown2 hb2))
  have hg2 : w2.heap[w.heap.size]? = some (.cells (List.replicate 0 (Value.int .i64 (-1)) ++ List.replicate (n - 0) (Value.int .i64 0)).toArray 3 (0, 0)) := by
    rcases HO2.out.2 with ⟨h, _⟩ | ⟨g, cap, cur, hv, _, hg, _, _, hcs, hct⟩
    · simp at h
    · simp at hv
      obtain ⟨rfl, rfl⟩ := hv
      rw [hg, flat_enc1, List.map_replicate] at *
      have : cur.toList = List.replicate n (Value.int .i64 0) := by
        rw [← hct, List.take_of_length_le (by simp [hcs])]
      have e : cur = (List.replicate n (Value.int .i64 0)).toArray := by rw [← this]
      rw [e]; simp
  have hb2 := (HB2.out.cell (p := ⟨b, 0, none⟩) hbl).trans hb
  have HG2 := Lib.hid hg2; have HCB := Lib.hid hb2
  obtain ⟨m1, hm1⟩ : ∃ x, x = min 1 n := ⟨_, rfl⟩
  obtain ⟨C1, hC1⟩ : ∃ x, x = List.replicate m1 (Value.int .i64 (-1)) := ⟨_, rfl⟩
  have hcl : C1.length = Nat.min 1 n := by rw [hC1, List.length_replicate]; exact hm1
  have HC1 := Lib.hid hC1
  clear hg2 hb2 hC1
  have hfit1 : 0 + C1.length ≤ (List.replicate 0 (Value.int .i64 (-1)) ++ List.replicate (n - 0) (Value.int .i64 0)).length := by
    have e : C1.length = m1 := by rw [hcl]; exact hm1.symm
    rw [e]; simp; omega
  have hone1 : ∀ v ∈ C1, v.oneCell' = true := fun v hv => by rw [HC1.out] at hv; rw [List.eq_of_mem_replicate hv]; rfl
  have hsrc1 : ∀ j v, C1[j]? = some v → w2.cell? ((⟨b, 0, none⟩ : Addr).add j) = some v := fun j v hj => by
    rw [HC1.out, List.getElem?_replicate] at hj
    split at hj
    · have : j = 0 := by omega
      subst this
      simp at hj; subst hj
      exact HCB.out
    · simp at hj
  have hpos1 : 0 < C1.length → some (⟨w.heap.size, 0, none⟩ : Addr) = some ⟨w.heap.size, 0, none⟩ ∧ ∃ ad, some (⟨b, 0, none⟩ : Addr) = some ad ∧ ∀ j v, C1[j]? = some v → w2.cell? (ad.add j) = some v := fun _ => ⟨rfl, _, rfl, hsrc1⟩
  have HPOS := Lib.hid hpos1; have HFIT := Lib.hid hfit1; have HONE := Lib.hid hone1; have HCL := Lib.hid hcl
  clear hpos1 hfit1 hone1 hsrc1 hcl
  go_wp2_with (with_reducible refine wpList_copy_splice rfl (.tmp 31) (.tmp 32) 26 26 rfl 3 Tryz.underlying26 (by kernel_rfl) (some ⟨w.heap.size, 0, none⟩) (some ⟨b, 0, none⟩) n n 1 c rfl rfl w.heap.size 0 (List.replicate 0 (Value.int .i64 (-1)) ++ List.replicate (n - 0) (Value.int .i64 0)) 3 HG2.out C1 HCL.out HPOS.out HFIT.out HONE.out w.heap.size w HB2.out (Nat.le_refl _) ?_; intro w3 hg3 hb3; have HB3 := Lib.hid hb3; have HG3 := hg3; clear hb3 hg3)
  have hg4 : w3.heap[w.heap.size]? = some (.cells (List.replicate m1 (Value.int .i64 (-1)) ++ List.replicate (n - m1) (Value.int .i64 0)).toArray 3 (0, 0)) := by
    have := HG3.out
    rw [HC1.out, rep_splice _ _ 0 m1 n (by omega), Nat.zero_add] at this
    exact this
  have HG4 := Lib.hid hg4
  rw [show C1.length = m1 by rw [HCL.out]; exact hm1.symm]
  have hm1b : (0 < n → 0 < m1) ∧ m1 ≤ n := by omega
  clear hg4 HG3 HG2 hm1
  go_loopw [8] (fun v wr => ∃ j : Nat, j ≤ n ∧ (0 < n → 0 < j) ∧ v = .int .i64 j ∧ wr.heap[w.heap.size]? = some (.cells (List.replicate j (Value.int .i64 (-1)) ++ List.replicate (n - j) (Value.int .i64 0)).toArray 3 (0, 0)) ∧ Below w.heap.size w wr) (fun v _ => n - (intOf v).toNat)
  case atStart => exact ⟨m1, by omega, by omega, rfl, HG4.out, HB3.out⟩
  case round =>
    obtain ⟨j, hj, hj0, rfl, hg, hB⟩ := hrel
    have HG := Lib.hid hg; have HB := Lib.hid hB
    clear HG4 HB3 hg hB
    by_cases hlt : j < n
    · have hj1 : 0 < j := hj0 (by omega)
      have hs1 : ∀ w', (Instr.slice 26 (.slice (some ⟨w.heap.size, 0, none⟩) n n) (some (.int .i64 (j : Int))) none none).run Tryz.prog w' = .ok (.slice (some ⟨w.heap.size, j, none⟩) (n - j) (n - j)) w' := fun w' => by
        rw [run_slice_l (P := Tryz.prog) w' 26 (some ⟨w.heap.size, 0, none⟩) n n (by kernel_rfl) .i64 (j : Int) (by omega) (by omega)]
        rw [show (Go.sizeOf (Tryz.prog.elem 26)).run Tryz.prog w' = .ok 1 w' by kernel_rfl]
        have : ¬ n = j := by omega
        have hjz : ¬ j = 0 := by omega
        simp [Result.andThen, sliced, this, hjz, Addr.add]
      have hs2 : ∀ w', (Instr.slice 26 (.slice (some ⟨w.heap.size, 0, none⟩) n n) none (some (.int .i64 (j : Int))) none).run Tryz.prog w' = .ok (.slice (some ⟨w.heap.size, 0, none⟩) j n) w' := fun w' => by
        have hne : ¬ n = 0 := by omega
        rw [run_slice_h (P := Tryz.prog) w' 26 (some ⟨w.heap.size, 0, none⟩) n n (by kernel_rfl) .i64 (j : Int) (by omega) (by omega)]
        rw [show (Go.sizeOf (Tryz.prog.elem 26)).run Tryz.prog w' = .ok 1 w' by kernel_rfl]
        simp [Result.andThen, sliced, hne, Addr.add]
      obtain ⟨m, hm⟩ : ∃ x, x = min j (n - j) := ⟨_, rfl⟩
      obtain ⟨C, hC⟩ : ∃ x, x = List.replicate m (Value.int .i64 (-1)) := ⟨_, rfl⟩
      have hcl : C.length = Nat.min j (n - j) := by rw [hC, List.length_replicate]; exact hm
      have hcl2 : C.length = m := by rw [hC, List.length_replicate]
      have HC := Lib.hid hC
      have wa : IntKind.i64.wrap ((j : Int) + (m : Int)) = ((j + m : Nat) : Int) := by rw [IntWalk.i64_in _ (by omega)]; omega
      have hfit : j + C.length ≤ (List.replicate j (Value.int .i64 (-1)) ++ List.replicate (n - j) (Value.int .i64 0)).length := by rw [hcl2]; simp; omega
      have hone : ∀ v ∈ C, v.oneCell' = true := fun v hv => by rw [HC.out] at hv; rw [List.eq_of_mem_replicate hv]; rfl
      have hsrc : ∀ (wx : World), wx.heap[w.heap.size]? = some (.cells (List.replicate j (Value.int .i64 (-1)) ++ List.replicate (n - j) (Value.int .i64 0)).toArray 3 (0, 0)) → ∀ i v, C[i]? = some v → wx.cell? ((⟨w.heap.size, 0, none⟩ : Addr).add i) = some v := fun wx hx i v hi => by
        rw [HC.out, List.getElem?_replicate] at hi
        split at hi
        · simp at hi; subst hi
          have hil : i < j := by omega
          have ea : (⟨w.heap.size, 0, none⟩ : Addr).add i = ⟨w.heap.size, i, none⟩ := by
            unfold Addr.add
            split
            · rename_i e; subst e; rfl
            · simp
          rw [ea]
          simp only [World.cell?, hx]
          simp only [Option.isSome_none, Bool.false_eq_true, if_false, List.getElem?_toArray]
          rw [List.getElem?_append_left (by simpa using hil), List.getElem?_replicate, if_pos hil]
        · simp at hi
      have HSRC := Lib.hid hsrc
      have hmb : m ≤ j ∧ m ≤ n - j ∧ 0 < m := by omega
      clear hC hsrc
      obtain ⟨w6, hcp, hg6, hb6⟩ := run_copyI (w := wr.drew) HG.out hcl (HSRC.out _ HG.out) hfit hone
      rw [hcl2] at hcp
      have hcp' : (Builtin.copy_ #[26, 26] 3 #[.slice (some ⟨w.heap.size, j, none⟩) (n - j) (n - j), .slice (some ⟨w.heap.size, 0, none⟩) j n]).run Tryz.prog wr.drew = .ok (.int .i64 (m : Int)) w6 := hcp
      have HG6 := Lib.hid hg6; have HB6 := Lib.hid (HB.out.trans (((Below.refl w.heap.size wr).drew).trans (hb6 w.heap.size (Nat.le_refl _))))
      clear hg6 hb6 hcp hcl hm
      go_upto_region 9 with fail
      go_region_law fail
      all_goals
        go_simp
        go_roundw
        case rel => exact ⟨.int .i64 ((j : Int) + (m : Int)), _, _, _, _, _, _, _, _, _, _, _, _, _, ⟨j + m, by omega, by omega, by simp, by have := HG6.out; rw [HC.out, rep_splice _ _ j m n (by omega)] at this; exact this, HB6.out⟩, rfl⟩
        case measure => simp [intOf]; omega
    · have hjn : j = n := by omega
      subst hjn
      go_wp2
      go_ret
      refine ⟨w.heap.size, rfl, ⟨by simp [flat_enc1], .inr ⟨w.heap.size, j, _, rfl, Nat.le_refl _, HG.out, Nat.le_refl _, by unfold maxLen; omega, by simp, ?_⟩⟩, HB.out⟩
      rw [flat_enc1, List.map_replicate]
      simp
end Go.Proofs.YtlhnhmimhpcoaaaGreat
namespace Go.Proofs.YtlhnhmimhpcoaaaGreat
open Go.RowKit
set_option linter.unusedSimpArgs false
set_option linter.unusedVariables false
def endG (i : Nat) (x : Int) (r : Int) (e : En) : Int := if e.w = 5 ∧ e.k = (i : Int) ∧ e.a = x then e.m else r
/-- the moment that the last entry tells, or -1 -/
def endF (o : List En) (i : Nat) (x : Int) : Int := o.foldl (endG i x) (-1)
theorem endF_one (o : List En) (e : En) (i : Nat) (x : Int) : endF (o ++ [e]) i x = endG i x (endF o i x) e := by unfold endF; rw [List.foldl_append]; rfl
theorem endF_app (o l : List En) (i : Nat) (x : Int) (h : ∀ e ∈ l, ¬ (e.w = 5 ∧ e.k = (i : Int) ∧ e.a = x)) : endF (o ++ l) i x = endF o i x := by
  unfold endF
  rw [List.foldl_append]
  generalize o.foldl (endG i x) (-1) = r
  induction l with
  | nil => rfl
  | cons e l ih =>
    rw [List.foldl_cons]
    have : endG i x r e = r := by unfold endG; rw [if_neg (h e (by simp))]
    rw [this]
    exact ih (fun e he => h e (by simp [he]))
theorem relA_newE (t : Int) : ∀ (ls : List (List P2)) (i : Nat) (s : Ms), ∃ l, (relA t i ls s).o = s.o ++ l ∧ ∀ e ∈ l, e.m = t ∧ e.w = 1
  | [], i, s => ⟨[], by simp [relA], fun e he => by simp at he⟩
  | l :: ls, i, s => by
    have hE : ∀ (es : List P2) (k : Nat) (s : Ms), ∃ l, (relE t i k es s).o = s.o ++ l ∧ ∀ e ∈ l, e.m = t ∧ e.w = 1 := by
      intro es
      induction es with
      | nil => exact fun k s => ⟨[], by simp [relE], fun e he => by simp at he⟩
      | cons e es ih =>
        intro k s
        rw [relE]
        obtain ⟨l, h1, h2⟩ := ih (k + 1) (if e.1 + e.2 = t then rel1 t i k s else s)
        rw [h1]
        split
        · exact ⟨⟨t, i, 1, k, 0⟩ :: l, by simp [rel1], fun e he => by
            rcases List.mem_cons.1 he with rfl | he
            · exact ⟨rfl, rfl⟩
            · exact h2 e he⟩
        · exact ⟨l, rfl, h2⟩
    obtain ⟨l1, h1, h2⟩ := hE l 0 s
    obtain ⟨l2, h3, h4⟩ := relA_newE t ls (i + 1) (relE t i 0 l s)
    refine ⟨l1 ++ l2, by rw [relA, h3, h1, List.append_assoc], fun e he => ?_⟩
    rcases List.mem_append.1 he with he | he
    · exact h2 e he
    · exact h4 e he
theorem ord_injE {l : List P2} {j k : Nat} {x : Int} (h1 : (ordE l)[j]? = some x) (h2 : (ordE l)[k]? = some x) : j = k := by
  obtain ⟨a1, e1⟩ := List.getElem?_eq_some_iff.1 h1
  obtain ⟨a2, e2⟩ := List.getElem?_eq_some_iff.1 h2
  have hp := List.pairwise_iff_getElem.1 (ordE_pw l)
  rcases Nat.lt_trichotomy j k with h | h | h
  · have := hp j k a1 a2 h; rw [e1, e2] at this; unfold Bef at this; omega
  · exact h
  · have := hp k j a2 a1 h; rw [e1, e2] at this; unfold Bef at this; omega
theorem set_atE {at_ : List Nat} {k i a b : Nat} (h : (at_.set k b)[i]? = some a) : (k = i ∧ a = b) ∨ (k ≠ i ∧ at_[i]? = some a) := by
  rw [List.getElem?_set] at h
  by_cases e : k = i
  · rw [if_pos e] at h
    split at h
    · exact .inl ⟨e, by simpa using h.symm⟩
    · simp at h
  · rw [if_neg e] at h; exact .inr ⟨e, h⟩
/-- who has been said to be over, up to a moment -/
structure EI (R : Rn) (T : Int) (s : Ms) (at_ : List Nat) : Prop where
  pos : 0 ≤ T
  old : ∀ i a j x, at_[i]? = some a → (ordE (evA R i))[j]? = some x → j < a → 0 ≤ endF s.o i x ∧ endF s.o i x ≤ T
  new : ∀ i a j x, at_[i]? = some a → (ordE (evA R i))[j]? = some x → a ≤ j → endF s.o i x = -1
  ok : ∀ e ∈ s.o, e.w = 5 → ∃ i x : Nat, e.k = (i : Int) ∧ e.a = (x : Int) ∧ i < R.L.length ∧ x < (evA R i).length
  ok4 : ∀ e ∈ s.o, e.w = 4 → ∃ i p x : Nat, e.k = (i : Int) ∧ e.a = (p : Int) ∧ e.b = (x : Int) ∧ i < R.L.length ∧ p < (taAt R.L i).pcs.length ∧ x < (evA R i).length
  okm : ∀ e ∈ s.o, 0 ≤ e.m ∧ e.m ≤ T ∧ (e.w = 3 ∨ e.w = 4 → e.m < T)
theorem EI.of {R : Rn} {T T' : Int} {s s' : Ms} {at_ : List Nat} (h : EI R T s at_) (hT : T ≤ T') {l : List En} (ho : s'.o = s.o ++ l) (h5 : ∀ e ∈ l, e.w ≠ 5)
    (h4 : ∀ e ∈ l, e.w = 4 → ∃ i p x : Nat, e.k = (i : Int) ∧ e.a = (p : Int) ∧ e.b = (x : Int) ∧ i < R.L.length ∧ p < (taAt R.L i).pcs.length ∧ x < (evA R i).length)
    (hm : ∀ e ∈ l, 0 ≤ e.m ∧ e.m ≤ T' ∧ (e.w = 3 ∨ e.w = 4 → e.m < T')) : EI R T' s' at_ := by
  have he : ∀ i x, endF s'.o i x = endF s.o i x := fun i x => by rw [ho]; exact endF_app _ _ _ _ (fun e q r => h5 e q r.1)
  have hp := h.pos
  refine ⟨by omega, fun i a j x h1 h2 h3 => ?_, fun i a j x h1 h2 h3 => by rw [he]; exact h.new i a j x h1 h2 h3, fun e q w5 => ?_, fun e q w4 => ?_, fun e q => ?_⟩
  · rw [he]; have := h.old i a j x h1 h2 h3; omega
  · rw [ho, List.mem_append] at q
    rcases q with q | q
    · exact h.ok e q w5
    · exact absurd w5 (h5 e q)
  · rw [ho, List.mem_append] at q
    rcases q with q | q
    · exact h.ok4 e q w4
    · exact h4 e q w4
  · rw [ho, List.mem_append] at q
    rcases q with q | q
    · have := h.okm e q
      exact ⟨this.1, by omega, fun w => by have := this.2.2 w; omega⟩
    · exact hm e q
theorem EI.fin {R : Rn} {T : Int} {s : Ms} {at_ : List Nat} (h : EI R T s at_) {i a : Nat} {how : Int} (hi : i < R.L.length) (ha : at_[i]? = some a) (hx : (ordE (evA R i))[a]? = some (s.hd i)) :
    EI R T (fin1 T i how s) (at_.set i (a + 1)) := by
  have ho : (fin1 T i how s).o = s.o ++ [⟨T, i, 5, s.hd i, how⟩] := rfl
  have hp := h.pos
  have hx0 := ordE_mem.1 (List.mem_of_getElem? hx)
  have key : ∀ k x, ¬ (k = i ∧ x = s.hd i) → endF (fin1 T i how s).o k x = endF s.o k x := fun k x hk => by
    rw [ho, endF_one]
    unfold endG
    rw [if_neg]
    rintro ⟨_, h1, h2⟩
    simp only [] at h1 h2
    exact hk ⟨by omega, h2.symm⟩
  have self : endF (fin1 T i how s).o i (s.hd i) = T := by
    rw [ho, endF_one]
    unfold endG
    rw [if_pos ⟨rfl, rfl, rfl⟩]
  refine ⟨hp, fun k b j x h1 h2 h3 => ?_, fun k b j x h1 h2 h3 => ?_, fun e q w5 => ?_, fun e q w4 => ?_, fun e q => ?_⟩
  · rcases set_atE h1 with ⟨rfl, rfl⟩ | ⟨hne, h1⟩
    · by_cases e : x = s.hd i
      · subst e; rw [self]; omega
      · rw [key _ _ (fun q => e q.2)]
        refine h.old i a j x ha h2 ?_
        rcases Nat.lt_succ_iff_lt_or_eq.1 h3 with q | q
        · exact q
        · subst q; rw [hx] at h2; simp at h2; exact absurd h2.symm e
    · rw [key _ _ (fun q => hne q.1.symm)]
      exact h.old k b j x h1 h2 h3
  · rcases set_atE h1 with ⟨rfl, rfl⟩ | ⟨hne, h1⟩
    · rw [key _ _ (fun q => by
        have := ord_injE (q.2 ▸ h2) hx
        omega)]
      exact h.new i a j x ha h2 (by omega)
    · rw [key _ _ (fun q => hne q.1.symm)]
      exact h.new k b j x h1 h2 h3
  · rw [ho, List.mem_append] at q
    rcases q with q | q
    · exact h.ok e q w5
    · simp at q; subst q
      obtain ⟨y, hy⟩ := Int.eq_ofNat_of_zero_le hx0.1
      exact ⟨i, y, rfl, hy, hi, by omega⟩
  · rw [ho, List.mem_append] at q
    rcases q with q | q
    · exact h.ok4 e q w4
    · simp at q; subst q; simp at w4
  · rw [ho, List.mem_append] at q
    rcases q with q | q
    · exact h.okm e q
    · simp at q; subst q; exact ⟨hp, Int.le_refl _, fun w => by simp at w⟩
theorem work_ok {R : Rn} {t : Int} {s : Ms} {at_ : List Nat} {i a : Nat} (hm : MOk R s) (hq : QR R t s at_) (hch : Chosen R s i) (ha : at_[i]? = some a) (ht : 0 ≤ t) {T' : Int} (hT : t < T') :
    ∃ x : Nat, s.hd i = (x : Int) ∧ x < (evA R i).length := by
  have hx0 := ordE_mem.1 (List.mem_of_getElem? (hq.event ha hch.rd))
  obtain ⟨y, hy⟩ := Int.eq_ofNat_of_zero_le hx0.1
  exact ⟨y, hy, by omega⟩
theorem EI.work {R : Rn} {t : Int} {s : Ms} {at_ : List Nat} {i a : Nat} (h : EI R t s at_) (hm : MOk R s) (hq : QR R t s at_) (hch : Chosen R s i) (ha : at_[i]? = some a) : EI R (t + 1) (wk1 R t i s) at_ := by
  have hp := h.pos
  obtain ⟨x, hx, hxl⟩ := work_ok hm hq hch ha hp (T' := t + 1) (by omega)
  refine h.of (by omega) (l := [⟨t, i, 4, (s.ja i).p, s.hd i⟩]) rfl (fun e q => by simp at q; subst q; simp) (fun e q _ => ?_) (fun e q => ?_)
  · simp at q; subst q
    exact ⟨i, (s.ja i).p, x, rfl, rfl, hx, hch.lt, hm.pc i hch.lt, hxl⟩
  · simp at q; subst q; exact ⟨hp, by simp only []; omega, fun _ => by simp only []; omega⟩
theorem ends_steps {R : Rn} (hr : RnOk R) : Steps R (fun t s at_ => EI R t s at_) (fun t s at_ => EI R (t + 1) s at_) := by
  refine ⟨?_, ?_, ?_, ?_, ?_, ?_, ?_, ?_⟩
  · intro t s at_ hm hq hp
    rw [show t - 1 + 1 = t by omega] at hp
    obtain ⟨l, h1, h2⟩ := relA_newE t R.ev 0 s
    have h0 := hp.pos
    exact hp.of (Int.le_refl _) h1 (fun e q => by rw [(h2 e q).2]; decide) (fun e q w => by rw [(h2 e q).2] at w; cases w) (fun e q => ⟨by rw [(h2 e q).1]; exact h0, by rw [(h2 e q).1]; exact Int.le_refl _, fun w => by rw [(h2 e q).2] at w; rcases w with w | w <;> cases w⟩)
  · intro t s at_ i hm hq hi hn hp
    have h0 := hp.pos
    exact hp.of (Int.le_refl _) (l := [⟨t, i, 2, 0, 0⟩]) rfl (fun e q => by simp at q; subst q; simp) (fun e q w => by simp at q; subst q; simp at w) (fun e q => by simp at q; subst q; exact ⟨h0, Int.le_refl _, fun w => by simp at w⟩)
  · intro t s at_ i a hm hq hi hn ha hs hin hp
    exact hp.fin hi ha (hq.event ha hn)
  · intro t s at_ hm hq hs hg hp
    have h0 := hp.pos
    exact hp.of (by omega) (l := [⟨t, -1, 3, 0, 0⟩]) rfl (fun e q => by simp at q; subst q; simp) (fun e q w => by simp at q; subst q; simp at w) (fun e q => by simp at q; subst q; exact ⟨h0, by simp only []; omega, fun _ => by simp only []; omega⟩)
  · intro t s at_ hm hq hs hg hn hp
    exact hp.of (by omega) (l := []) (by simp) (fun e q => by simp at q) (fun e q => by simp at q) (fun e q => by simp at q)
  · intro t s at_ i a hm hq hs hg hch ha hfin hp
    have := hp.work hm hq hch ha
    exact this.fin (s := wk1 R t i s) hch.lt ha (hq.event ha hch.rd)
  · intro t s at_ i a hm hq hs hg hch ha hpl hbu hp
    exact hp.work hm hq hch ha
  · intro t s at_ i a hm hq hs hg hch ha hpl hbu hp
    have h1 := hp.work hm hq hch ha
    have h0 := hp.pos
    exact h1.of (Int.le_refl _) (s' := wk2 R t i s) (l := [⟨t + 1, i, 6, s.hd i, 0⟩]) rfl (fun e q => by simp at q; subst q; simp) (fun e q w => by simp at q; subst q; simp at w) (fun e q => by simp at q; subst q; exact ⟨by simp only []; omega, Int.le_refl _, fun w => by simp at w⟩)
theorem EI.zero {R : Rn} (hr : RnOk R) : EI R 0 (ms0 R.L.length) (List.replicate R.L.length 0) := by
  refine ⟨Int.le_refl _, fun i a j x h1 _ h3 => ?_, fun _ _ _ _ _ _ _ => rfl, fun e q => by simp [ms0] at q, fun e q => by simp [ms0] at q, fun e q => by simp [ms0] at q⟩
  rw [List.getElem?_replicate] at h1
  split at h1
  · simp at h1; omega
  · simp at h1
theorem plM_ei {R : Rn} (hr : RnOk R) (k : Nat) : ∃ at_, QR R ((k : Int) - 1) (plM R k) at_ ∧ EI R k (plM R k) at_ := by
  obtain ⟨at_, h1, h2⟩ := (ends_steps hr).run hr (EI.zero hr) k
  rw [show (k : Int) - 1 + 1 = k by omega] at h2
  exact ⟨at_, h1, h2⟩
/-- all ends -/
def endsRow (R : Rn) (o : List En) (i : Nat) : List Int := (List.range (evA R i).length).map (fun (k : Nat) => endF o i (k : Int))
theorem endsRow_len (R : Rn) (o : List En) (i : Nat) : (endsRow R o i).length = (evA R i).length := by simp [endsRow]
theorem endsRow_get {R : Rn} {o : List En} {i k : Nat} (h : k < (evA R i).length) : (endsRow R o i)[k]? = some (endF o i (k : Int)) := by simp [endsRow, h]
theorem endsRow_nil (R : Rn) (i : Nat) : endsRow R [] i = List.replicate (evA R i).length (-1) := by
  apply List.ext_getElem?
  intro k
  by_cases h : k < (evA R i).length
  · rw [endsRow_get h, List.getElem?_replicate, if_pos h]; rfl
  · rw [List.getElem?_eq_none (by rw [endsRow_len]; omega), List.getElem?_eq_none (by simp; omega)]
theorem endsRow_other (R : Rn) {o : List En} {e : En} (h : e.w ≠ 5) (i : Nat) : endsRow R (o ++ [e]) i = endsRow R o i := by
  unfold endsRow
  refine List.map_congr_left (fun k _ => ?_)
  rw [endF_one]; unfold endG; rw [if_neg (fun q => h q.1)]
theorem endsRow_over (R : Rn) {o : List En} {e : En} (h : e.w = 5) {k x : Nat} (hk : e.k = (k : Int)) (hx : e.a = (x : Int)) (i : Nat) : endsRow R (o ++ [e]) i = if i = k then (endsRow R o i).set x e.m else endsRow R o i := by
  apply List.ext_getElem?
  intro j
  by_cases hj : j < (evA R i).length
  · rw [endsRow_get hj, endF_one]
    unfold endG
    by_cases hik : i = k
    · subst hik
      rw [if_pos rfl, List.getElem?_set]
      by_cases hxj : x = j
      · subst hxj
        rw [if_pos ⟨h, hk, hx⟩, if_pos rfl, if_pos (by rw [endsRow_len]; exact hj)]
      · rw [if_neg (fun q => hxj (by have := q.2.2; omega)), if_neg hxj, endsRow_get hj]
    · rw [if_neg (fun q => hik (by have := q.2.1; omega)), if_neg hik, endsRow_get hj]
  · rw [List.getElem?_eq_none (by rw [endsRow_len]; omega)]
    split
    · rw [List.getElem?_eq_none (by rw [List.length_set, endsRow_len]; omega)]
    · rw [List.getElem?_eq_none (by rw [endsRow_len]; omega)]
end Go.Proofs.YtlhnhmimhpcoaaaGreat
namespace Go.Proofs.YtlhnhmimhpcoaaaGreat
open Go.RowKit
set_option linter.unusedSimpArgs false
set_option linter.unusedVariables false
/-- a slice of lists of ints -/
structure RdE (w : World) (a : Option Addr) (n : Nat) (X : Nat → List Int) : Prop where
  sm : n ≤ 9223372036854775807
  at_ : ∀ k, k < n → ∃ (b off : Nat) (ea : Option Addr) (en ec : Nat), a = some ⟨b, off, none⟩ ∧ b < w.heap.size ∧ w.cell? ⟨b, off + k, none⟩ = some (.slice ea en ec) ∧ Rd w ea en 1 ((X k).map enc1)
theorem RdE.ext {w w' : World} {a : Option Addr} {n : Nat} {X : Nat → List Int} (h : RdE w a n X) (hb : Below w.heap.size w w') : RdE w' a n X :=
  ⟨h.sm, fun k hk => by
    obtain ⟨b, off, ea, en, ec, e, h1, h2, h3⟩ := h.at_ k hk
    exact ⟨b, off, ea, en, ec, e, Nat.lt_of_lt_of_le h1 hb.size, (hb.cell (p := ⟨b, off + k, none⟩) h1).trans h2, h3.ext hb⟩⟩
theorem IRows.put {B N : Nat} {w : World} {h X} (hR : IRows B w N h X) {i : Nat} (hi : i < N) {g : Nat} (hg : (h i).a = some ⟨g, 0, none⟩) (x : Nat) (v : Int) :
    IRows B (w.setCell ⟨g, x, none⟩ (.int .i64 v)) N h (updF X i ((X i).set x v)) := by
  have hs : sl (h i) = .slice (some ⟨g, 0, none⟩) (h i).n (h i).c := by unfold sl; rw [hg]
  have ho := hR.own i hi
  rw [hs] at ho
  have hgr := (ho.stored x (.int .i64 v)).2
  refine ⟨fun k hk => ?_, hR.apart⟩
  by_cases e : k = i
  · subst e; rw [updF_same, hs]; exact ownsI_set ho x v
  · rw [updF_other _ _ e]
    refine (hR.own k hk).kept hgr ?_
    have := hR.apart k i hk hi e
    rw [hs] at this
    exact this
theorem updF_ends {R : Rn} {o : List En} {e : En} (h : e.w = 5) {k x : Nat} (hk : e.k = (k : Int)) (hx : e.a = (x : Int)) : endsRow R (o ++ [e]) = updF (endsRow R o) k ((endsRow R o k).set x e.m) := by
  funext i
  rw [endsRow_over R h hk hx]
  unfold updF
  split
  · rename_i q; subst q; rfl
  · rfl
theorem same_ends {R : Rn} {o : List En} {e : En} (h : e.w ≠ 5) : endsRow R (o ++ [e]) = endsRow R o := by funext i; exact endsRow_other R h i
theorem take_one {α : Type} {l : List α} {j : Nat} {x : α} (h : l[j]? = some x) : l.take (j + 1) = l.take j ++ [x] := by rw [List.take_add_one, h]; rfl
set_option maxRecDepth 100000 in
set_option maxHeartbeats 8000000 in
theorem ends_any (H : RunH) (R : Rn) (o : List En) (a : Option Addr) (n c : Nat) (w : World) (hR : RdRun w H R) (hr : RnOk R) (ho : Rd w a n 5 (o.map encE)) (hn : n ≤ 100000000)
    (hok : ∀ e ∈ o, e.w = 5 → ∃ i x : Nat, e.k = (i : Int) ∧ e.a = (x : Int) ∧ i < R.L.length ∧ x < (evA R i).length) :
    Calls Tryz.prog 19 #[.agg #[.slice H.tA H.tN H.tC, .int .i64 R.fr, .int .i64 R.sl, .slice H.eA H.eN H.eC, .slice H.bA H.bN H.bC, .slice H.sA H.sN H.sC], .slice a n c] w fun e w' => ∃ a', e = .returned (.slice a' R.L.length R.L.length) ∧ RdE w' a' R.L.length (endsRow R o) ∧ Below w.heap.size w w' := by
  have htn := hR.t.length
  have hen := hR.e.len
  have hen2 := hr.ev
  have hL5 := hr.r.len
  have HR := Lib.hid hR; have HRN := Lib.hid hr; have HO := Lib.hid ho; have HOK := Lib.hid hok
  obtain ⟨nL, hnL⟩ : ∃ x, R.L.length = x := ⟨_, rfl⟩
  rw [hnL]
  have HNL := Lib.hid hnL
  have htn' : H.tN = nL := by omega
  have hEN : H.eN = nL := by omega
  have hn5 : nL ≤ 5 := by omega
  obtain ⟨fr, hfr⟩ : ∃ x, R.fr = x := ⟨_, rfl⟩
  obtain ⟨sl_, hsl⟩ : ∃ x, R.sl = x := ⟨_, rfl⟩
  rw [htn', hfr, hsl, hEN]
  have HEN := Lib.hid hEN
  obtain ⟨eA, heA⟩ : ∃ x, H.eA = x := ⟨_, rfl⟩
  rw [heA]
  have HEA := Lib.hid heA
  clear hR hr htn hnL htn' hfr hsl hen hen2 hEN ho hok heA
  have hmk2 := run_make_row' (P := Tryz.prog) 60 26 (.slice none 0 0) 24 Tryz.underlying60 (by kernel_rfl) rfl .i64 .i64 nL (by omega) (by omega)
  go_enter Tryz.func19, Tryz.ntmps19
  go_wp2
  obtain ⟨w2, hw2⟩ : ∃ x, x = (w.alloc (.cells #[.slice H.tA nL H.tC, .int .i64 fr, .int .i64 sl_, .slice eA nL H.eC, .slice H.bA H.bN H.bC, .slice H.sA H.sN H.sC] 29)).alloc (.cells (madeCells #[.slice none 0 0] nL) 26) := ⟨_, rfl⟩
  have hBk : Blk w2 (w.heap.size + 1) (madeCells #[.slice none 0 0] nL) := by rw [hw2]; exact Blk.at _ _ _ _ (by simp)
  have hBx : Blk w2 w.heap.size #[.slice H.tA nL H.tC, .int .i64 fr, .int .i64 sl_, .slice eA nL H.eC, .slice H.bA H.bN H.bC, .slice H.sA H.sN H.sC] := by rw [hw2]; exact (Blk.at _ _ _ _ rfl).old _
  have hb2 : Below w.heap.size w w2 := by rw [hw2]; (repeat' (first | (with_reducible exact Below.refl _ _) | (with_reducible assumption) | (with_reducible refine Below.alloc ?_ ?_ _) | (with_reducible refine Below.drew ?_) | (with_reducible refine Below.draws ?_ _) | (with_reducible refine Below.setCell ?_ ?_ _) | (refine Below.then ?_ (by with_reducible assumption)) | go_size))
  have hz2 : w2.heap.size = w.heap.size + 2 := by rw [hw2]; simp
  have x3 := hBx.c 3
  simp at x3
  rw [← hw2]
  have HB2 := Lib.hid hb2; have HBK := Lib.hid hBk; have HX3 := Lib.hid x3
  have hI0 : IRows w2.heap.size w2 nL (fun _ => ⟨none, 0, 0⟩) (fun _ => []) := ⟨fun i hi => World.ownsRow_nil _ _ _ _, fun i j _ _ _ => .inl rfl⟩
  have HI0 := Lib.hid hI0
  clear hw2 hBk hBx hb2 hI0 hmk2
  go_loopw [15] (fun v wr => ∃ (k : Nat) (h : Nat → Hdr), k ≤ nL ∧ v = .int .i64 k ∧ IRows w2.heap.size wr nL h (fun i => if i < k then endsRow R [] i else []) ∧ (∀ i, i < nL → wr.cell? ⟨w.heap.size + 1, i, none⟩ = some (sl (h i))) ∧ (∀ j, wr.frozen? ⟨w.heap.size + 1, j, none⟩ = false) ∧ wr.cell? ⟨w.heap.size, 3, none⟩ = some (.slice eA nL H.eC) ∧ w2.heap.size ≤ wr.heap.size ∧ Below w.heap.size w wr) (fun v _ => nL - (intOf v).toNat)
  case atStart => exact ⟨0, _, Nat.zero_le _, rfl, by simpa using HI0.out, fun i hi => by rw [HBK.out.c, made_one _ _ _ hi], HBK.out.f, HX3.out, Nat.le_refl _, HB2.out⟩
  case round =>
    clear x3
    obtain ⟨k, h, hk, rfl, hI, hW, hF, hX, hz, hB⟩ := hrel
    have HI := Lib.hid hI; have HW := Lib.hid hW; have HF := Lib.hid hF; have HB := Lib.hid hB
    by_cases hkn : k < nL
    · have hkE : k < H.eN := by rw [HEN.out]; exact hkn
      have hkL : k < R.L.length := by rw [HNL.out]; exact hkn
      have hkev : k < R.ev.length := by rw [HRN.out.ev]; exact hkL
      obtain ⟨b, off, ea, en, ec, hea, hb, hc, hRd⟩ := HR.out.e.at_ k hkE
      have hel := HRN.out.el (evAt R.ev k) (by unfold evAt; rw [List.getElem?_eq_getElem hkev]; exact List.getElem_mem hkev)
      have hen40 : en ≤ 40 := by rw [← hRd.length]; exact hel.1
      have hlen : (evA R k).length = en := hRd.length
      have HLEN := Lib.hid hlen
      have hc' := (hB.cell (p := ⟨b, off + k, none⟩) hb).trans hc
      obtain rfl : eA = some ⟨b, off, none⟩ := HEA.out.symm.trans hea
      have hWk := hW k hkn
      have hFk := hF k
      have hWz : w.heap.size + 1 < wr.heap.size := by omega
      have hWz0 : w.heap.size < wr.heap.size := by omega
      have hbz := World.block_lt_of_cell? _ _ hc'
      simp only [] at hbz
      clear hI hW hF hB hel hRd hc hea hlen
      go_wp2_with (go_at_call 45; (with_reducible refine (repeat_any _ en _ _ (by omega) (by simp [go_sem])).mono ?_); rintro e w6 ⟨g6, rfl, hown6, hb6⟩; have hb6' : Below wr.heap.size wr w6 := Below.trans (by (repeat' (first | (with_reducible exact Below.refl _ _) | (with_reducible assumption) | (with_reducible refine Below.alloc ?_ ?_ _) | (with_reducible refine Below.drew ?_) | (with_reducible refine Below.draws ?_ _) | (with_reducible refine Below.setCell ?_ ?_ _) | (refine Below.then ?_ (by with_reducible assumption)) | go_size))) (hb6.mono (by simp)); have y0 := (hb6'.cell (p := ⟨w.heap.size + 1, k, none⟩) hWz).trans hWk; have y1 := (hb6'.frozen (p := ⟨w.heap.size + 1, k, none⟩) hWz).trans hFk; have HB6 := Lib.hid hb6'; have HO6 := Lib.hid (owns_mono hown6 (show wr.heap.size ≤ _ by simp)); clear hown6 hb6 hb6')
      go_roundw
      case rel =>
        have hfr := HI.out.fresh hkn HB6.out hz (d := ⟨some ⟨g6, 0, none⟩, en, en⟩) HO6.out
        have hz6 := HB6.out.size
        refine ⟨k + 1, updF h k ⟨some ⟨g6, 0, none⟩, en, en⟩, hkn, by go_num, ?_, fun i hi => ?_, fun j => ?_, ?_, ?_, ?_⟩
        · have e : (fun i => if i < k + 1 then endsRow R [] i else []) = updF (fun i => if i < k then endsRow R [] i else []) k (List.replicate en (-1)) := by
            funext i
            unfold updF
            by_cases q : i = k
            · subst q; rw [if_pos rfl, if_pos (by omega), endsRow_nil, HLEN.out]
            · rw [if_neg q]
              show _ = (if i < k then endsRow R [] i else [])
              by_cases q2 : i < k
              · rw [if_pos q2, if_pos (by omega)]
              · rw [if_neg q2, if_neg (by omega)]
          rw [e]
          exact hfr.far (by omega) _
        · by_cases q : i = k
          · subst q
            rw [updF_same]
            exact World.cell?_setCell_same _ _ _ y0
          · rw [updF_other _ _ q]
            exact (World.cell?_setCell_other _ _ _ _ (addr_neS (.inr (fun q2 => q q2.symm)))).trans ((HB6.out.cell (p := ⟨w.heap.size + 1, i, none⟩) hWz).trans (HW.out i hi))
        · rw [World.frozen?_setCell]
          exact (HB6.out.frozen (p := ⟨w.heap.size + 1, j, none⟩) hWz).trans (HF.out j)
        · exact (World.cell?_setCell_other _ _ _ _ (addr_neS (.inl (by omega)))).trans ((HB6.out.cell (p := ⟨w.heap.size, 3, none⟩) (show w.heap.size < wr.heap.size by omega)).trans hX)
        · simp; omega
        · exact (HB.out.trans (HB6.out.mono HB.out.size)).setCell (p := ⟨w.heap.size + 1, k, none⟩) (show w.heap.size ≤ w.heap.size + 1 by omega) _
      case measure => simp [intOf]; omega
    · have hkn2 : k = nL := by omega
      subst hkn2
      have hI2 : IRows w2.heap.size wr k h (endsRow R (o.take 0)) := by
        refine ⟨fun i hi => ?_, hI.apart⟩
        have := hI.own i hi
        rw [if_pos hi] at this
        exact this
      have HI2 := Lib.hid hI2
      clear hI hI2 HI
      go_wp2
      go_loopw [32] (fun v wr => ∃ j : Nat, j ≤ n ∧ v = .int .i64 j ∧ IRows w2.heap.size wr k h (endsRow R (o.take j)) ∧ (∀ i, i < k → wr.cell? ⟨w.heap.size + 1, i, none⟩ = some (sl (h i))) ∧ w2.heap.size ≤ wr.heap.size ∧ Below w.heap.size w wr) (fun v _ => n - (intOf v).toNat)
      case atStart => exact ⟨0, Nat.zero_le _, rfl, HI2.out, HW.out, hz, HB.out⟩
      case round =>
        clear HI2 hX hW hF
        obtain ⟨j, hj, rfl, hI, hW, hz3, hB3⟩ := hrel
        have HI := Lib.hid hI; have HW3 := Lib.hid hW; have HB3 := Lib.hid hB3
        by_cases hjn : j < n
        · obtain ⟨x, b1, o1, rfl, hb1, hx, q0, q1, q2, q3, q4⟩ := (HO.out.ext HB3.out).en_at j hjn
          have HX := Lib.hid hx
          have htk := take_one hx
          obtain ⟨m1, k1, w1', a1, c1⟩ := x
          simp only [] at q0 q1 q2 q3 q4
          have hzx : w.heap.size + 1 < wr.heap.size := by omega
          by_cases h5 : w1' = 5
          · subst h5
            obtain ⟨i, xx, hik, hia, hil, hxl⟩ := HOK.out _ (List.mem_of_getElem? hx) rfl
            simp only [] at hik hia
            subst hik; subst hia
            have hin : i < k := by rw [← HNL.out]; exact hil
            have hWi := hW i hin
            have hlen := hI.len hin
            rw [endsRow_len] at hlen
            have hown := hI.own i hin
            obtain ⟨g, hga⟩ : ∃ g, (h i).a = some ⟨g, 0, none⟩ := by
              rcases hown.2 with ⟨hv, h0⟩ | ⟨g', cap', cur, hv, _⟩
              · omega
              · unfold sl at hv; simp at hv; exact ⟨g', hv.1⟩
            unfold sl at hWi
            rw [hga] at hWi
            obtain ⟨hn', hhn⟩ : ∃ x, (h i).n = x := ⟨_, rfl⟩
            rw [hhn] at hWi hlen
            have hs : sl (h i) = .slice (some ⟨g, 0, none⟩) (h i).n (h i).c := by unfold sl; rw [hga]
            rw [hs] at hown
            obtain ⟨yv, _, d1, f1, gl⟩ := ownsI_at hown xx (by omega)
            have hxn : xx < hn' := by omega
            have hgB : w2.heap.size ≤ g := (hown.lt g rfl).1
            have HGA := Lib.hid hga
            have HTK := Lib.hid htk
            clear hI hW hB3 hown hhn hs hga hx htk hlen
            go_wp2
            go_region
            all_goals
              go_wp2_with fail
              go_roundw
              case rel =>
                have hp := (HI.out.put hin HGA.out xx m1).ext (w' := ((wr.setCell ⟨g, xx, none⟩ (.int .i64 m1)).alloc (.cells #[.int .i64 m1, .int .i64 (i : Int), .int .i64 5, .int .i64 (xx : Int), .int .i64 c1] 58)).drew) (by (repeat' (first | (with_reducible exact Below.refl _ _) | (with_reducible assumption) | (with_reducible refine Below.alloc ?_ ?_ _) | (with_reducible refine Below.drew ?_) | (with_reducible refine Below.draws ?_ _) | (with_reducible refine Below.setCell ?_ ?_ _) | (refine Below.then ?_ (by with_reducible assumption)) | go_size)))
                refine ⟨j + 1, by omega, by go_num, ?_, fun i2 hi2 => ?_, ?_, ?_⟩
                · rw [HTK.out, updF_ends rfl rfl rfl]
                  exact hp
                · have e1 := (World.cell?_setCell_other wr ⟨g, xx, none⟩ ⟨w.heap.size + 1, i2, none⟩ (.int .i64 m1) (addr_neS (.inl (by omega)))).trans (HW3.out i2 hi2)
                  exact ((show Below (wr.setCell ⟨g, xx, none⟩ (.int .i64 m1)).heap.size (wr.setCell ⟨g, xx, none⟩ (.int .i64 m1)) _ by (repeat' (first | (with_reducible exact Below.refl _ _) | (with_reducible assumption) | (with_reducible refine Below.alloc ?_ ?_ _) | (with_reducible refine Below.drew ?_) | (with_reducible refine Below.draws ?_ _) | (with_reducible refine Below.setCell ?_ ?_ _) | (refine Below.then ?_ (by with_reducible assumption)) | go_size))).cell (p := ⟨w.heap.size + 1, i2, none⟩) (by simp; omega)).trans e1
                · simp; omega
                · refine Below.then (HB3.out.setCell (p := ⟨g, xx, none⟩) (show w.heap.size ≤ g by omega) (.int .i64 m1)) ?_
                  (repeat' (first | (with_reducible exact Below.refl _ _) | (with_reducible assumption) | (with_reducible refine Below.alloc ?_ ?_ _) | (with_reducible refine Below.drew ?_) | (with_reducible refine Below.draws ?_ _) | (with_reducible refine Below.setCell ?_ ?_ _) | (refine Below.then ?_ (by with_reducible assumption)) | go_size))
              case measure => simp [intOf]; omega
          · have h5' : (w1' == 5) = false := by simpa using h5
            have HTK := Lib.hid htk
            clear hI hW hB3 hx htk
            go_wp2
            go_roundw
            case rel =>
              refine ⟨j + 1, by omega, by go_num, ?_, fun i2 hi2 => ?_, ?_, ?_⟩
              · rw [HTK.out, same_ends h5]
                exact HI.out.ext (by (repeat' (first | (with_reducible exact Below.refl _ _) | (with_reducible assumption) | (with_reducible refine Below.alloc ?_ ?_ _) | (with_reducible refine Below.drew ?_) | (with_reducible refine Below.draws ?_ _) | (with_reducible refine Below.setCell ?_ ?_ _) | (refine Below.then ?_ (by with_reducible assumption)) | go_size)))
              · exact ((show Below wr.heap.size wr _ by (repeat' (first | (with_reducible exact Below.refl _ _) | (with_reducible assumption) | (with_reducible refine Below.alloc ?_ ?_ _) | (with_reducible refine Below.drew ?_) | (with_reducible refine Below.draws ?_ _) | (with_reducible refine Below.setCell ?_ ?_ _) | (refine Below.then ?_ (by with_reducible assumption)) | go_size))).cell (p := ⟨w.heap.size + 1, i2, none⟩) hzx).trans (HW3.out i2 hi2)
              · simp; omega
              · exact HB3.out.trans (by (repeat' (first | (with_reducible exact Below.refl _ _) | (with_reducible assumption) | (with_reducible refine Below.alloc ?_ ?_ _) | (with_reducible refine Below.drew ?_) | (with_reducible refine Below.draws ?_ _) | (with_reducible refine Below.setCell ?_ ?_ _) | (refine Below.then ?_ (by with_reducible assumption)) | go_size)))
            case measure => simp [intOf]; omega
        · have hjn2 : j = n := by omega
          subst hjn2
          rw [List.take_of_length_le (by rw [HO.out.length]; exact Nat.le_refl _)] at hI
          have HIF := Lib.hid hI
          clear hI hW hB3
          go_wp2
          go_ret
          refine ⟨_, rfl, ⟨by omega, fun i hi => ⟨w.heap.size + 1, 0, (h i).a, (h i).n, (h i).c, rfl, by omega, by rw [Nat.zero_add]; exact HW3.out i hi, ownsI_rd (HIF.out.own i hi)⟩⟩, HB3.out⟩
/-- what Ends gives: the rows (of so many tasks), the error -/
def OutX (w : World) (n : Nat) (X : Nat → List Int) (er : Int) (e : Ending) (w' : World) : Prop :=
  ∃ a c, e = .returned (.tuple #[.slice a n c, .int .i64 er]) ∧ RdE w' a n X ∧ Below w.heap.size w w'
theorem RdE.nil (w : World) (a : Option Addr) (X : Nat → List Int) : RdE w a 0 X := ⟨by omega, fun k hk => absurd hk (Nat.not_lt_zero k)⟩
/-- the number of tasks, the rows, the error of Ends -/
def endN (R : Rn) (t : Int) : Nat := if (runB R && inB t 0 2000) = true then R.L.length else 0
def endX (R : Rn) (t : Int) : Nat → List Int := endsRow R (plM R t.toNat).o
def endE (R : Rn) (t : Int) : Int := if (runB R && inB t 0 2000) = true then 0 else 1
theorem plM_ok5 {R : Rn} (hr : RnOk R) (k : Nat) : ∀ e ∈ (plM R k).o, e.w = 5 → ∃ i x : Nat, e.k = (i : Int) ∧ e.a = (x : Int) ∧ i < R.L.length ∧ x < (evA R i).length := by
  obtain ⟨_, _, h⟩ := plM_ei hr k
  exact h.ok
theorem plM_olen {R : Rn} (hr : RnOk R) {k : Nat} (hk : k ≤ 2000) : (plM R k).o.length ≤ 504000 := by have := plM_o hr k; omega
set_option maxRecDepth 10000 in
set_option maxHeartbeats 2000000 in
theorem Ends_any (H : RunH) (R : Rn) (t : Int) (w : World) (hR : ReadRun w H R) : Calls Tryz.prog 74 #[runV H R.fr R.sl, .int .i64 t] w (OutX w (endN R t) (endX R t) (endE R t)) := by
  obtain ⟨B, hB⟩ : ∃ B, (runB R && inB t 0 2000) = B := ⟨_, rfl⟩
  unfold endN endE
  rw [hB]
  have HI := Lib.hid (fun w1 (hb : Below w.heap.size w w1) => is_any H R t w1 (hR.ext hb) hB)
  cases B
  · obtain ⟨fr, hfr⟩ : ∃ x, R.fr = x := ⟨_, rfl⟩
    obtain ⟨sl_, hsl⟩ : ∃ x, R.sl = x := ⟨_, rfl⟩
    rw [hfr, hsl] at HI ⊢
    obtain ⟨tA, tN, tC, eA, eN, eC, bA, bN, bC, sA, sN, sC⟩ := H
    unfold runV at HI ⊢
    simp only [] at HI ⊢
    clear hR hB hfr hsl
    go_enter Tryz.func74, Tryz.ntmps74
    go_wp2_with (go_at_call 17; (with_reducible refine (HI.out _ (by (repeat' (first | (with_reducible exact Below.refl _ _) | (with_reducible assumption) | (with_reducible refine Below.alloc ?_ ?_ _) | (with_reducible refine Below.drew ?_) | (with_reducible refine Below.draws ?_ _) | (with_reducible refine Below.setCell ?_ ?_ _) | (refine Below.then ?_ (by with_reducible assumption)) | go_size)))).mono ?_); rintro e w1 ⟨rfl, hb1⟩; have B1 : Hid (Below w.heap.size w w1) := Lib.hid (Below.trans (by (repeat' (first | (with_reducible exact Below.refl _ _) | (with_reducible assumption) | (with_reducible refine Below.alloc ?_ ?_ _) | (with_reducible refine Below.drew ?_) | (with_reducible refine Below.draws ?_ _) | (with_reducible refine Below.setCell ?_ ?_ _) | (refine Below.then ?_ (by with_reducible assumption)) | go_size))) (hb1.mono (by simp))); have z1 : w.heap.size < w1.heap.size := Nat.lt_of_lt_of_le (by simp) hb1.size; have c1_0 := (hb1.cell (p := ⟨w.heap.size, 0, none⟩) (by simp)).trans (by simp [go_sem]; rfl); have c1_1 := (hb1.cell (p := ⟨w.heap.size, 1, none⟩) (by simp)).trans (by simp [go_sem]; rfl); have c1_2 := (hb1.cell (p := ⟨w.heap.size, 2, none⟩) (by simp)).trans (by simp [go_sem]; rfl); have c1_3 := (hb1.cell (p := ⟨w.heap.size, 3, none⟩) (by simp)).trans (by simp [go_sem]; rfl); have c1_4 := (hb1.cell (p := ⟨w.heap.size, 4, none⟩) (by simp)).trans (by simp [go_sem]; rfl); have c1_5 := (hb1.cell (p := ⟨w.heap.size, 5, none⟩) (by simp)).trans (by simp [go_sem]; rfl); clear hb1)
    go_ret2
    exact ⟨_, _, rfl, RdE.nil _ _ _, B1.out⟩
  · rw [Bool.and_eq_true, inB_iff] at hB
    obtain ⟨tn, rfl⟩ := Int.eq_ofNat_of_zero_le hB.2.1
    rw [if_pos rfl, if_pos rfl]
    unfold endX
    rw [Int.toNat_natCast]
    obtain ⟨hr, _⟩ := run_ok hB.1
    have htn : tn ≤ 2000 := by omega
    have HP := Lib.hid (fun w1 (hb : Below w.heap.size w w1) => play_any H R tn w1 (hR.ext hb).rd hr htn)
    have HEN := Lib.hid (fun (w1 : World) (a : Option Addr) (n c : Nat) (hb : Below w.heap.size w w1) (hx : Rd w1 a n 5 ((plM R tn).o.map encE)) => ends_any H R (plM R tn).o a n c w1 (hR.ext hb).rd hr hx (by have h1 := hx.length; have h2 := plM_olen hr htn; omega) (plM_ok5 hr tn))
    obtain ⟨nL, hnL⟩ : ∃ x, R.L.length = x := ⟨_, rfl⟩
    obtain ⟨fr, hfr⟩ : ∃ x, R.fr = x := ⟨_, rfl⟩
    obtain ⟨sl_, hsl⟩ : ∃ x, R.sl = x := ⟨_, rfl⟩
    rw [hnL] at HEN ⊢
    rw [hfr, hsl] at HI HP HEN ⊢
    obtain ⟨tA, tN, tC, eA, eN, eC, bA, bN, bC, sA, sN, sC⟩ := H
    unfold runV at HI ⊢
    simp only [] at HI HP HEN ⊢
    clear hR hB hfr hsl hnL hr
    go_enter Tryz.func74, Tryz.ntmps74
    go_upto_region 3 with (go_at_call 17; (with_reducible refine (HI.out _ (by (repeat' (first | (with_reducible exact Below.refl _ _) | (with_reducible assumption) | (with_reducible refine Below.alloc ?_ ?_ _) | (with_reducible refine Below.drew ?_) | (with_reducible refine Below.draws ?_ _) | (with_reducible refine Below.setCell ?_ ?_ _) | (refine Below.then ?_ (by with_reducible assumption)) | go_size)))).mono ?_); rintro e w1 ⟨rfl, hb1⟩; have B1 : Hid (Below w.heap.size w w1) := Lib.hid (Below.trans (by (repeat' (first | (with_reducible exact Below.refl _ _) | (with_reducible assumption) | (with_reducible refine Below.alloc ?_ ?_ _) | (with_reducible refine Below.drew ?_) | (with_reducible refine Below.draws ?_ _) | (with_reducible refine Below.setCell ?_ ?_ _) | (refine Below.then ?_ (by with_reducible assumption)) | go_size))) (hb1.mono (by simp))); have z1 : w.heap.size < w1.heap.size := Nat.lt_of_lt_of_le (by simp) hb1.size; have c1_0 := (hb1.cell (p := ⟨w.heap.size, 0, none⟩) (by simp)).trans (by simp [go_sem]; rfl); have c1_1 := (hb1.cell (p := ⟨w.heap.size, 1, none⟩) (by simp)).trans (by simp [go_sem]; rfl); have c1_2 := (hb1.cell (p := ⟨w.heap.size, 2, none⟩) (by simp)).trans (by simp [go_sem]; rfl); have c1_3 := (hb1.cell (p := ⟨w.heap.size, 3, none⟩) (by simp)).trans (by simp [go_sem]; rfl); have c1_4 := (hb1.cell (p := ⟨w.heap.size, 4, none⟩) (by simp)).trans (by simp [go_sem]; rfl); have c1_5 := (hb1.cell (p := ⟨w.heap.size, 5, none⟩) (by simp)).trans (by simp [go_sem]; rfl); clear hb1)
    go_region_held3 (fun w' => w'.cell? ⟨w.heap.size, 0, none⟩ = some (.slice tA tN tC) ∧ w'.cell? ⟨w.heap.size, 1, none⟩ = some (.int .i64 fr) ∧ w'.cell? ⟨w.heap.size, 2, none⟩ = some (.int .i64 sl_) ∧ w'.cell? ⟨w.heap.size, 3, none⟩ = some (.slice eA eN eC) ∧ w'.cell? ⟨w.heap.size, 4, none⟩ = some (.slice bA bN bC) ∧ w'.cell? ⟨w.heap.size, 5, none⟩ = some (.slice sA sN sC)) (first | go_keep)
      (first
        | (go_at_call 18; (with_reducible refine (HP.out _ B1.out.drew).mono ?_); rintro e w2 ⟨a2, n2, c2', rfl, h2, hb2x⟩; have HO2 := Lib.hid (Rd.of_owns encE_len (by decide) h2); have hb2 : Below w1.heap.size w1 w2 := Below.then (Below.refl w1.heap.size w1).drew hb2x; clear h2 hb2x; have B2 := Lib.hid (Below.then B1.out hb2); have z2 : w.heap.size < w2.heap.size := Nat.lt_of_lt_of_le z1 hb2.size; have c2_0 := (hb2.cell (p := ⟨w.heap.size, 0, none⟩) z1).trans c1_0; have c2_1 := (hb2.cell (p := ⟨w.heap.size, 1, none⟩) z1).trans c1_1; have c2_2 := (hb2.cell (p := ⟨w.heap.size, 2, none⟩) z1).trans c1_2; have c2_3 := (hb2.cell (p := ⟨w.heap.size, 3, none⟩) z1).trans c1_3; have c2_4 := (hb2.cell (p := ⟨w.heap.size, 4, none⟩) z1).trans c1_4; have c2_5 := (hb2.cell (p := ⟨w.heap.size, 5, none⟩) z1).trans c1_5; clear hb2 c1_0 c1_1 c1_2 c1_3 c1_4 c1_5)
        | (go_at_call 19; (with_reducible refine (HEN.out _ _ _ _ B2.out HO2.out).mono ?_); rintro e w3 ⟨a3, rfl, h3, hb3⟩; have HX3 := Lib.hid h3; clear h3; have B3 := Lib.hid (Below.then B2.out hb3); have z3 : w.heap.size < w3.heap.size := Nat.lt_of_lt_of_le z2 hb3.size; have c3_0 := (hb3.cell (p := ⟨w.heap.size, 0, none⟩) z2).trans c2_0; have c3_1 := (hb3.cell (p := ⟨w.heap.size, 1, none⟩) z2).trans c2_1; have c3_2 := (hb3.cell (p := ⟨w.heap.size, 2, none⟩) z2).trans c2_2; have c3_3 := (hb3.cell (p := ⟨w.heap.size, 3, none⟩) z2).trans c2_3; have c3_4 := (hb3.cell (p := ⟨w.heap.size, 4, none⟩) z2).trans c2_4; have c3_5 := (hb3.cell (p := ⟨w.heap.size, 5, none⟩) z2).trans c2_5; clear hb3 c2_0 c2_1 c2_2 c2_3 c2_4 c2_5))
    all_goals
      go_wp2_with fail
      go_ret2
      exact ⟨_, _, rfl, HX3.out, B3.out⟩
end Go.Proofs.YtlhnhmimhpcoaaaGreat
namespace Go.Proofs.YtlhnhmimhpcoaaaGreat
open Go.RowKit
set_option linter.unusedSimpArgs false
set_option linter.unusedVariables false
theorem rSimE_is {H : RunH} {R : Rn} {t : Int} {w : World} {xs : List En} {y : Int} (hR : ReadRun w H R) (h : simR R t = (xs, y)) : Calls Tryz.prog 23 #[runV H R.fr R.sl, .int .i64 t] w (OutEn w xs y) := by
  have := rSim_any H R t w hR
  rw [h] at this; exact this
theorem ERow : Elt Tryz.prog 60 26 1 24 := Elt.mk' (z := .slice none 0 0) Tryz.underlying60 (by kernel_rfl) rfl (by decide)
def hdrs (i : Nat) (h : Nat → Hdr) : List Value := (List.range i).map (fun j => sl (h j))
theorem hdrs_succ (i : Nat) (h : Nat → Hdr) (d : Hdr) : hdrs (i + 1) (updF h i d) = hdrs i h ++ [sl d] := by
  unfold hdrs
  rw [List.range_succ, List.map_append, List.map_singleton, updF_same]
  congr 1
  refine List.map_congr_left (fun j hj => ?_)
  rw [List.mem_range] at hj
  rw [updF_other _ _ (by omega)]
theorem hdrs_rd {w : World} {B n c : Nat} {a : Option Addr} {h : Nat → Hdr} {X : Nat → List Int} (ho : w.ownsRow B 26 1 (.slice a n c) n (hdrs n h)) (hn : n ≤ 1000) (hx : ∀ i, i < n → Rd w (h i).a (h i).n 1 ((X i).map enc1)) : RdE w a n X := by
  refine ⟨by omega, fun k hk => ?_⟩
  rcases ho.2 with ⟨_, h0⟩ | ⟨g, cap, cur, hv, hB, hg, _⟩
  · omega
  · simp at hv
    obtain ⟨rfl, rfl⟩ := hv
    refine ⟨g, 0, (h k).a, (h k).n, (h k).c, rfl, (Array.getElem?_eq_some_iff.1 hg).1, ?_, hx k hk⟩
    rw [Nat.zero_add, ho.cellAt k (by simpa using hk)]
    simp [hdrs, hk]
theorem endsRow_take {R : Rn} {o : List En} {i k : Nat} (h : k < (evA R i).length) : (endsRow R o i).take (k + 1) = (endsRow R o i).take k ++ [endF o i (k : Int)] := take_one (endsRow_get h)
theorem endF_take {o : List En} {n : Nat} {e : En} (h : o[n]? = some e) (i : Nat) (x : Int) : endF (o.take (n + 1)) i x = endG i x (endF (o.take n) i x) e := by rw [take_one h, endF_one]
set_option maxRecDepth 100000 in
set_option maxHeartbeats 8000000 in
theorem rEnds_any (H : RunH) (R : Rn) (t : Int) (w : World) (hR : ReadRun w H R) : Calls Tryz.prog 22 #[runV H R.fr R.sl, .int .i64 t] w (OutX w (endN R t) (endX R t) (endE R t)) := by
  obtain ⟨B, hB⟩ : ∃ B, (runB R && inB t 0 2000) = B := ⟨_, rfl⟩
  have hsim : simR R t = if B = true then ((plM R t.toNat).o, 0) else ([], 1) := by unfold simR; rw [hB]
  unfold endN endE
  rw [hB]
  cases B
  · have HS := Lib.hid (fun w1 (hb : Below w.heap.size w w1) => rSimE_is (hR.ext hb) hsim)
    obtain ⟨fr, hfr⟩ : ∃ x, R.fr = x := ⟨_, rfl⟩
    obtain ⟨sl_, hsl⟩ : ∃ x, R.sl = x := ⟨_, rfl⟩
    rw [hfr, hsl] at HS ⊢
    obtain ⟨tA, tN, tC, eA, eN, eC, bA, bN, bC, sA, sN, sC⟩ := H
    unfold runV at HS ⊢
    simp only [] at HS ⊢
    clear hR hB hfr hsl hsim
    go_enter Tryz.func22, Tryz.ntmps22
    go_wp2_with (go_at_call 23; (with_reducible refine (HS.out _ (by (repeat' (first | (with_reducible exact Below.refl _ _) | (with_reducible assumption) | (with_reducible refine Below.alloc ?_ ?_ _) | (with_reducible refine Below.drew ?_) | (with_reducible refine Below.draws ?_ _) | (with_reducible refine Below.setCell ?_ ?_ _) | (refine Below.then ?_ (by with_reducible assumption)) | go_size)))).mono ?_); rintro e w1 ⟨a1, n1, c1, rfl, h1, hb1⟩; clear h1; have B1 : Hid (Below w.heap.size w w1) := Lib.hid (Below.trans (by (repeat' (first | (with_reducible exact Below.refl _ _) | (with_reducible assumption) | (with_reducible refine Below.alloc ?_ ?_ _) | (with_reducible refine Below.drew ?_) | (with_reducible refine Below.draws ?_ _) | (with_reducible refine Below.setCell ?_ ?_ _) | (refine Below.then ?_ (by with_reducible assumption)) | go_size))) (hb1.mono (by simp))); have z1 : w.heap.size < w1.heap.size := Nat.lt_of_lt_of_le (by simp) hb1.size; have c1_0 := (hb1.cell (p := ⟨w.heap.size, 0, none⟩) (by simp)).trans (by simp [go_sem]; rfl); have c1_1 := (hb1.cell (p := ⟨w.heap.size, 1, none⟩) (by simp)).trans (by simp [go_sem]; rfl); have c1_2 := (hb1.cell (p := ⟨w.heap.size, 2, none⟩) (by simp)).trans (by simp [go_sem]; rfl); have c1_3 := (hb1.cell (p := ⟨w.heap.size, 3, none⟩) (by simp)).trans (by simp [go_sem]; rfl); have c1_4 := (hb1.cell (p := ⟨w.heap.size, 4, none⟩) (by simp)).trans (by simp [go_sem]; rfl); have c1_5 := (hb1.cell (p := ⟨w.heap.size, 5, none⟩) (by simp)).trans (by simp [go_sem]; rfl); clear hb1)
    go_ret2
    exact ⟨_, _, rfl, RdE.nil _ _ _, B1.out⟩
  · rw [if_pos rfl] at hsim
    have HS := Lib.hid (fun w1 (hb : Below w.heap.size w w1) => rSimE_is (hR.ext hb) hsim)
    rw [if_pos rfl, if_pos rfl]
    unfold endX
    rw [Bool.and_eq_true, inB_iff] at hB
    obtain ⟨hr, _⟩ := run_ok hB.1
    obtain ⟨o, ho⟩ : ∃ x, (plM R t.toNat).o = x := ⟨_, rfl⟩
    have hol : o.length ≤ 504000 := by rw [← ho]; exact plM_olen hr (by omega)
    rw [ho] at HS ⊢
    have hen := hR.rd.e.len
    have hL5 := hr.r.len
    have hev := hr.ev
    have HR := Lib.hid hR.rd; have HRN := Lib.hid hr
    obtain ⟨nL, hnL⟩ : ∃ x, R.L.length = x := ⟨_, rfl⟩
    have hEN : H.eN = nL := by omega
    have hn5 : nL ≤ 5 := by omega
    have HNL := Lib.hid hnL
    rw [hnL]
    obtain ⟨fr, hfr⟩ : ∃ x, R.fr = x := ⟨_, rfl⟩
    obtain ⟨sl_, hsl⟩ : ∃ x, R.sl = x := ⟨_, rfl⟩
    rw [hfr, hsl] at HS ⊢
    obtain ⟨tA, tN, tC, eA, eN, eC, bA, bN, bC, sA, sN, sC⟩ := H
    unfold runV at HS ⊢
    simp only [] at HS HR hEN ⊢
    subst hEN
    have e1 := E1
    have eR := ERow
    clear hR hB hfr hsl hnL hr hsim ho hen hL5 hev
    go_enter Tryz.func22, Tryz.ntmps22
    go_wp2_with (go_at_call 23; (with_reducible refine (HS.out _ (by (repeat' (first | (with_reducible exact Below.refl _ _) | (with_reducible assumption) | (with_reducible refine Below.alloc ?_ ?_ _) | (with_reducible refine Below.drew ?_) | (with_reducible refine Below.draws ?_ _) | (with_reducible refine Below.setCell ?_ ?_ _) | (refine Below.then ?_ (by with_reducible assumption)) | go_size)))).mono ?_); rintro e w1 ⟨a1, n1, c1, rfl, h1, hb1⟩; have HO := Lib.hid (Rd.of_owns encE_len (by decide) h1); clear h1; have B1 : Hid (Below w.heap.size w w1) := Lib.hid (Below.trans (by (repeat' (first | (with_reducible exact Below.refl _ _) | (with_reducible assumption) | (with_reducible refine Below.alloc ?_ ?_ _) | (with_reducible refine Below.drew ?_) | (with_reducible refine Below.draws ?_ _) | (with_reducible refine Below.setCell ?_ ?_ _) | (refine Below.then ?_ (by with_reducible assumption)) | go_size))) (hb1.mono (by simp))); have z1 : w.heap.size < w1.heap.size := Nat.lt_of_lt_of_le (by simp) hb1.size; have c1_0 := (hb1.cell (p := ⟨w.heap.size, 0, none⟩) (by simp)).trans (by simp [go_sem]; rfl); have c1_1 := (hb1.cell (p := ⟨w.heap.size, 1, none⟩) (by simp)).trans (by simp [go_sem]; rfl); have c1_2 := (hb1.cell (p := ⟨w.heap.size, 2, none⟩) (by simp)).trans (by simp [go_sem]; rfl); have c1_3 := (hb1.cell (p := ⟨w.heap.size, 3, none⟩) (by simp)).trans (by simp [go_sem]; rfl); have c1_4 := (hb1.cell (p := ⟨w.heap.size, 4, none⟩) (by simp)).trans (by simp [go_sem]; rfl); have c1_5 := (hb1.cell (p := ⟨w.heap.size, 5, none⟩) (by simp)).trans (by simp [go_sem]; rfl); clear hb1)
    have hn1 : n1 ≤ 504000 := by have := HO.out.length; omega
    clear c1_0 c1_1 c1_2 c1_4 c1_5
    go_loopw [8, 9] (fun v8 v9 wr => ∃ (i : Nat) (a : Option Addr) (c : Nat) (h : Nat → Hdr), i ≤ eN ∧ v8 = .slice a i c ∧ v9 = .int .i64 i ∧ wr.ownsRow w1.heap.size 26 1 (.slice a i c) i (hdrs i h) ∧ (∀ j, j < i → wr.ownsRow w1.heap.size 3 1 (sl (h j)) (h j).n ((endsRow R o j).flatMap enc1)) ∧ Below w1.heap.size w1 wr) (fun _ v _ => eN - (intOf v).toNat)
    case atStart => exact ⟨0, none, 0, fun _ => ⟨none, 0, 0⟩, Nat.zero_le _, rfl, rfl, World.ownsRow_nil _ _ _ _, fun j hj => absurd hj (Nat.not_lt_zero j), Below.refl _ _⟩
    case round =>
      obtain ⟨i, a, c, h, hi, rfl, rfl, hH, hX, hB⟩ := hrel
      have HH := Lib.hid hH; have HX := Lib.hid hX; have HB := Lib.hid hB
      have d3 := (hB.cell (p := ⟨w.heap.size, 3, none⟩) z1).trans c1_3
      have zz := Nat.lt_of_lt_of_le z1 hB.size
      have zB := hB.size
      clear hH hX hB
      by_cases hin : i < eN
      · have hiL : i < R.L.length := by rw [HNL.out]; exact hin
        have hkev : i < R.ev.length := by rw [HRN.out.ev]; exact hiL
        obtain ⟨b, off, ea, en, ec, rfl, hb, hc, hRd⟩ := HR.out.e.at_ i hin
        have hel := HRN.out.el (evAt R.ev i) (by unfold evAt; rw [List.getElem?_eq_getElem hkev]; exact List.getElem_mem hkev)
        have hen40 : en ≤ 40 := by rw [← hRd.length]; exact hel.1
        have hlen : (evA R i).length = en := hRd.length
        have hcw := ((B1.out.trans (HB.out.mono B1.out.size)).cell (p := ⟨b, off + i, none⟩) hb).trans hc
        have HLEN := Lib.hid hlen; have HCW := Lib.hid hcw
        obtain ⟨wo, hwo⟩ : ∃ wo : World, wo = wr := ⟨_, rfl⟩
        have hbo : b < wr.heap.size := Nat.lt_of_lt_of_le hb (B1.out.trans (HB.out.mono B1.out.size)).size
        rw [← hwo] at HH HX HB d3 zz zB hcw HCW hbo ⊢
        clear hRd hel hc hlen hwo hcw
        go_wp2
        go_loopw [10, 11] (fun v10 v11 wr => ∃ (k : Nat) (a' : Option Addr) (c' : Nat), k ≤ en ∧ v10 = .slice a' k c' ∧ v11 = .int .i64 k ∧ wr.ownsRow wo.heap.size 3 1 (.slice a' k c') k (((endsRow R o i).take k).flatMap enc1) ∧ Below wo.heap.size wo wr) (fun _ v _ => en - (intOf v).toNat)
        case atStart => exact ⟨0, none, 0, Nat.zero_le _, rfl, rfl, World.ownsRow_nil _ _ _ _, Below.refl _ _⟩
        case round =>
          obtain ⟨k, a', c', hk, rfl, rfl, hO2, hB2⟩ := hrel
          have HO2 := Lib.hid hO2; have HB2 := Lib.hid hB2
          have f3 := (hB2.cell (p := ⟨w.heap.size, 3, none⟩) zz).trans d3
          have fc := (hB2.cell (p := ⟨b, off + i, none⟩) hbo).trans HCW.out
          have z3 := Nat.lt_of_lt_of_le zz hB2.size
          have hbz := Nat.lt_of_lt_of_le hbo hB2.size
          clear hO2 hB2
          by_cases hkn : k < en
          · obtain ⟨wi, hwi⟩ : ∃ wi : World, wi = wr := ⟨_, rfl⟩
            rw [← hwi] at HO2 HB2 f3 fc z3 hbz ⊢
            clear hwi
            go_wp2
            go_loopw [12, 13] (fun v12 v13 wr => ∃ m : Nat, m ≤ n1 ∧ v12 = .int .i64 (endF (o.take m) i (k : Int)) ∧ v13 = .int .i64 m ∧ Below wi.heap.size wi wr) (fun _ v _ => n1 - (intOf v).toNat)
            case atStart => exact ⟨0, Nat.zero_le _, rfl, rfl, Below.refl _ _⟩
            case round =>
              obtain ⟨m, hm, rfl, rfl, hB3⟩ := hrel
              have HB3 := Lib.hid hB3
              clear hB3
              by_cases hmn : m < n1
              · obtain ⟨x, b1, o1, rfl, hb1, hx, q0, q1, q2, q3, q4⟩ := (((HO.out.ext HB.out).ext HB2.out).ext HB3.out).en_at m hmn
                have hst := endF_take hx i (k : Int)
                obtain ⟨m1, k1, w1', a1, x1⟩ := x
                simp only [] at q0 q1 q2 q3 q4
                obtain ⟨E, hE⟩ : ∃ E, endF (o.take m) i (k : Int) = E := ⟨_, rfl⟩
                rw [hE] at hst ⊢
                unfold endG at hst
                simp only [] at hst
                clear hx hE
                by_cases r1 : w1' = 5
                · subst r1
                  by_cases r2 : k1 = (i : Int)
                  · subst r2
                    by_cases r3 : a1 = (k : Int)
                    · subst r3
                      rw [if_pos ⟨rfl, rfl, rfl⟩] at hst
                      have HST := Lib.hid hst
                      clear hst
                      go_wp2
                      go_roundw
                      case rel => exact ⟨m + 1, hmn, by rw [HST.out], by go_num, HB3.out⟩
                      case measure => simp [intOf]; omega
                    · have r3' : (a1 == (k : Int)) = false := by simpa using r3
                      rw [if_neg (fun q => r3 q.2.2)] at hst
                      have HST := Lib.hid hst
                      clear hst
                      go_wp2
                      go_roundw
                      case rel => exact ⟨m + 1, hmn, by rw [HST.out], by go_num, HB3.out⟩
                      case measure => simp [intOf]; omega
                  · have r2' : (k1 == (i : Int)) = false := by simpa using r2
                    rw [if_neg (fun q => r2 q.2.1)] at hst
                    have HST := Lib.hid hst
                    clear hst
                    go_wp2
                    go_roundw
                    case rel => exact ⟨m + 1, hmn, by rw [HST.out], by go_num, HB3.out⟩
                    case measure => simp [intOf]; omega
                · have r1' : (w1' == 5) = false := by simpa using r1
                  rw [if_neg (fun q => r1 q.1)] at hst
                  have HST := Lib.hid hst
                  clear hst
                  go_wp2
                  go_roundw
                  case rel => exact ⟨m + 1, hmn, by rw [HST.out], by go_num, HB3.out⟩
                  case measure => simp [intOf]; omega
              · have hmm : o.take m = o := List.take_of_length_le (by rw [HO.out.length]; omega)
                rw [hmm]
                obtain ⟨E, hE⟩ : ∃ E, endF o i (k : Int) = E := ⟨_, rfl⟩
                rw [hE]
                have HE := Lib.hid hE
                have HO4 := Lib.hid (owns_ext HO2.out HB3.out)
                have HB4 := Lib.hid (Below.then HB2.out HB3.out)
                have zw := HB4.out.size
                clear hmm hE
                go_wp2_with (at_builtin; (refine wpList_push (B := wo.heap.size) rfl _ _ _ rfl e1 rfl HO4.out rfl rfl (by intro u hu; simp at hu; subst hu; rfl) (by omega) (by decide) zw ?_); intro a6 c6 w6 hown6 hb6; have HO6 := Lib.hid hown6; have B6 := Lib.hid hb6; clear hown6 hb6)
                go_roundw
                case rel => exact ⟨k + 1, a6, c6, hkn, rfl, by go_num, by rw [endsRow_take (by rw [HLEN.out]; exact hkn), HE.out, List.flatMap_append]; exact HO6.out, HB4.out.trans B6.out⟩
                case measure => simp [intOf]; omega
          · have hke : k = en := by omega
            subst hke
            have hO5 : wr.ownsRow wo.heap.size 3 1 (.slice a' k c') k ((endsRow R o i).flatMap enc1) := by
              have := HO2.out
              rw [List.take_of_length_le (by rw [endsRow_len, HLEN.out]; exact Nat.le_refl _)] at this
              exact this
            have HO5 := Lib.hid hO5
            have HH5 := Lib.hid (owns_ext HH.out HB2.out)
            have zw : w1.heap.size ≤ wr.heap.size := Nat.le_trans zB HB2.out.size
            clear hO5
            go_wp2_with (at_builtin; refine wpList_pushM (N := wr.heap.size) (B := w1.heap.size) (v := .slice a i c) (by simp) rfl _ _ _ rfl eR rfl HH5.out rfl rfl (by intro u hu; simp at hu; subst hu; rfl) (by omega) (by decide) zw ?_; intro a6 c6 w6 hown6 hg6; have HO6 := Lib.hid hown6; have HG6 := Lib.hid hg6; clear hown6 hg6)
            go_roundw
            case rel =>
              have hHA := owns_ext HH5.out (show Below wr.heap.size wr (wr.alloc (.cells #[.slice a' k c'] 26)) by (repeat' (first | (with_reducible exact Below.refl _ _) | (with_reducible assumption) | (with_reducible refine Below.alloc ?_ ?_ _) | (with_reducible refine Below.drew ?_) | (with_reducible refine Below.draws ?_ _) | (with_reducible refine Below.setCell ?_ ?_ _) | (refine Below.then ?_ (by with_reducible assumption)) | go_size)))
              refine ⟨i + 1, a6, c6, updF h i ⟨a', k, c'⟩, hin, rfl, by go_num, by rw [hdrs_succ]; exact HO6.out, fun j hj => ?_, ?_⟩
              · by_cases q : j = i
                · subst q
                  rw [updF_same]
                  exact owns_kept (owns_mono (owns_ext HO5.out (show Below wr.heap.size wr (wr.alloc (.cells #[.slice a' k c'] 26)) by (repeat' (first | (with_reducible exact Below.refl _ _) | (with_reducible assumption) | (with_reducible refine Below.alloc ?_ ?_ _) | (with_reducible refine Below.drew ?_) | (with_reducible refine Below.draws ?_ _) | (with_reducible refine Below.setCell ?_ ?_ _) | (refine Below.then ?_ (by with_reducible assumption)) | go_size)))) zB) hHA (by decide) HG6.out
                · rw [updF_other _ _ q]
                  exact owns_kept (owns_ext (owns_ext (HX.out j (by omega)) HB2.out) (show Below wr.heap.size wr (wr.alloc (.cells #[.slice a' k c'] 26)) by (repeat' (first | (with_reducible exact Below.refl _ _) | (with_reducible assumption) | (with_reducible refine Below.alloc ?_ ?_ _) | (with_reducible refine Below.drew ?_) | (with_reducible refine Below.draws ?_ _) | (with_reducible refine Below.setCell ?_ ?_ _) | (refine Below.then ?_ (by with_reducible assumption)) | go_size)))) hHA (by decide) HG6.out
              · have h1 : Below w1.heap.size w1 wr := HB.out.trans (HB2.out.mono zB)
                have h2 : Below w1.heap.size wr (wr.alloc (.cells #[.slice a' k c'] 26)) := (show Below wr.heap.size wr (wr.alloc (.cells #[.slice a' k c'] 26)) by (repeat' (first | (with_reducible exact Below.refl _ _) | (with_reducible assumption) | (with_reducible refine Below.alloc ?_ ?_ _) | (with_reducible refine Below.drew ?_) | (with_reducible refine Below.draws ?_ _) | (with_reducible refine Below.setCell ?_ ?_ _) | (refine Below.then ?_ (by with_reducible assumption)) | go_size))).mono zw
                exact (h1.trans h2).trans (grown_below hHA HG6.out (by simp; omega))
            case measure => simp [intOf]; omega
      · have hie : i = eN := by omega
        subst hie
        have hRE : RdE wr a i (endsRow R o) := hdrs_rd HH.out (by omega) (fun j hj => ownsI_rd (HX.out j hj))
        have HRE := Lib.hid hRE
        clear hRE
        go_wp2
        go_ret2
        exact ⟨_, _, rfl, HRE.out, B1.out.trans (HB.out.mono B1.out.size)⟩
end Go.Proofs.YtlhnhmimhpcoaaaGreat
namespace Go.Proofs.YtlhnhmimhpcoaaaGreat
open Go.RowKit
set_option linter.unusedSimpArgs false
set_option linter.unusedVariables false
def dueA (R : Rn) (i k : Nat) : Int := (((evA R i)[k]?).getD default).1 + (taAt R.L i).dl
def xAt (X : Nat → List Int) (i k : Nat) : Int := ((X i)[k]?).getD 0
/-- what is found late so far: the first due, the task, the event -/
abbrev LS := Int × Int × Int
def lateS (R : Rn) (X : Nat → List Int) (i k : Nat) (s : LS) : LS := if dueA R i k < s.1 ∧ (xAt X i k < 0 ∨ dueA R i k < xAt X i k) then (dueA R i k, (i : Int), (k : Int)) else s
def lateRow (R : Rn) (X : Nat → List Int) (i : Nat) : Nat → Nat → LS → LS
  | 0, _, s => s
  | f + 1, k, s => lateRow R X i f (k + 1) (lateS R X i k s)
def lateAll (R : Rn) (X : Nat → List Int) : Nat → Nat → LS → LS
  | 0, _, s => s
  | f + 1, i, s => lateAll R X f (i + 1) (lateRow R X i (evA R i).length 0 s)
def lateF (R : Rn) (t : Int) : LS := lateAll R (endX R t) R.L.length 0 (t + 1, -1, -1)
def lateR (R : Rn) (t : Int) : Int × Int × Int := if (runB R && inB t 0 2000) = true then (if 0 ≤ (lateF R t).2.1 then ((lateF R t).2.1, (lateF R t).2.2, 15) else (-1, -1, 0)) else (0, 0, 1)
def meetsR (R : Rn) (t : Int) : Bool × Int := if (runB R && inB t 0 2000) = true then (decide ((lateF R t).2.1 < 0), 0) else (false, 1)
def rIII (x y z : Int) : Ending := .returned (.tuple #[.int .i64 x, .int .i64 y, .int .i64 z])
theorem RdRun.late {w : World} {H : RunH} {R : Rn} (hR : RdRun w H R) (hr : RnOk R) (hv : ValidT R.L) {i k : Nat} (hi : i < R.L.length) (hk : k < (evA R i).length) :
    ∃ (eb eo en ec vb vo : Nat) (x y : Int) (tb toff : Nat) (d : Int), H.eA = some ⟨eb, eo, none⟩ ∧ w.cell? ⟨eb, eo + i, none⟩ = some (.slice (some ⟨vb, vo, none⟩) en ec) ∧ (evA R i).length = en ∧ w.cell? ⟨vb, vo + k * 2, none⟩ = some (.int .i64 x) ∧
    H.tA = some ⟨tb, toff, none⟩ ∧ w.cell? ⟨tb, toff + i * 6 + 1, none⟩ = some (.int .i64 d) ∧ x + d = dueA R i k ∧ (0 ≤ x ∧ x ≤ 1000000) ∧ (0 ≤ d ∧ d ≤ 10000) ∧ eb < w.heap.size ∧ vb < w.heap.size ∧ tb < w.heap.size ∧ i < H.tN ∧ i < H.eN := by
  have hkev : i < R.ev.length := by rw [hr.ev]; exact hi
  have hie : i < H.eN := by have := hR.e.len; omega
  have hit : i < H.tN := by have := hR.t.length; omega
  obtain ⟨b, off, ea, en, ec, hea, hb, hc, hRd⟩ := hR.e.at_ i hie
  have hlen : (evA R i).length = en := hRd.length
  obtain ⟨x, y, vb, vo, rfl, hvb, g0, g1, hg, _⟩ := hRd.pc_at' k (by omega)
  have hel := (hr.el (evA R i) (by unfold evA; rw [List.getElem?_eq_getElem hkev]; exact List.getElem_mem hkev)).2 (x, y) (List.mem_of_getElem? hg)
  simp only [] at hel
  obtain ⟨t, tb, toff, pa, pn, pc, hta, htb, _, h1, _, _, _, _, _, _, ht, _⟩ := hR.t.at_ i hit
  have htm : taAt R.L i = t := taAt_of ht
  have htM := List.mem_of_getElem? ht
  have d1 := hv.dl t htM
  have d2 := hv.gap t htM
  have hvz : vb < w.heap.size := hvb
  refine ⟨b, off, en, ec, vb, vo, x, y, tb, toff, t.dl, hea, hc, hlen, g0, hta, h1, ?_, hel.1, by omega, hb, hvz, htb, hit, hie⟩
  have hg' : (evA R i)[k]? = some (x, y) := hg
  unfold dueA
  rw [hg', htm]; rfl
theorem RdE.xat {w : World} {a : Option Addr} {n : Nat} {X : Nat → List Int} (h : RdE w a n X) {i k : Nat} (hi : i < n) (hk : k < (X i).length) :
    ∃ (b off xb xo en ec : Nat), a = some ⟨b, off, none⟩ ∧ b < w.heap.size ∧ w.cell? ⟨b, off + i, none⟩ = some (.slice (some ⟨xb, xo, none⟩) en ec) ∧ (X i).length = en ∧ xb < w.heap.size ∧ w.cell? ⟨xb, xo + k, none⟩ = some (.int .i64 (xAt X i k)) := by
  obtain ⟨b, off, ea, en, ec, rfl, hb, hc, hR⟩ := h.at_ i hi
  have hl := hR.length
  obtain ⟨y, xb, xo, rfl, hxb, hx, hy⟩ := hR.idx k (by omega)
  refine ⟨b, off, xb, xo, en, ec, rfl, hb, hc, hl, hxb, ?_⟩
  have : xAt X i k = y := by unfold xAt; rw [hy]; rfl
  rw [this]; exact hx
theorem RdE.row {w : World} {a : Option Addr} {n : Nat} {X : Nat → List Int} (h : RdE w a n X) {i : Nat} (hi : i < n) :
    ∃ (b off : Nat) (ea : Option Addr) (en ec : Nat), a = some ⟨b, off, none⟩ ∧ b < w.heap.size ∧ w.cell? ⟨b, off + i, none⟩ = some (.slice ea en ec) ∧ (X i).length = en ∧ Rd w ea en 1 ((X i).map enc1) := by
  obtain ⟨b, off, ea, en, ec, rfl, hb, hc, hR⟩ := h.at_ i hi
  exact ⟨b, off, ea, en, ec, rfl, hb, hc, hR.length, hR⟩
set_option maxRecDepth 100000 in
set_option maxHeartbeats 8000000 in
theorem Late_any (H : RunH) (R : Rn) (t : Int) (w : World) (hR : ReadRun w H R) : Calls Tryz.prog 32 #[runV H R.fr R.sl, .int .i64 t] w fun e w' => e = rIII (lateR R t).1 (lateR R t).2.1 (lateR R t).2.2 ∧ Below w.heap.size w w' := by
  have HE := Lib.hid (fun w1 (hb : Below w.heap.size w w1) => Ends_any H R t w1 (hR.ext hb))
  obtain ⟨B, hB⟩ : ∃ B, (runB R && inB t 0 2000) = B := ⟨_, rfl⟩
  unfold lateR
  unfold endE endN at HE
  rw [hB] at HE ⊢
  cases B
  · obtain ⟨fr, hfr⟩ : ∃ x, R.fr = x := ⟨_, rfl⟩
    obtain ⟨sl_, hsl⟩ : ∃ x, R.sl = x := ⟨_, rfl⟩
    rw [hfr, hsl] at HE ⊢
    obtain ⟨tA, tN, tC, eA, eN, eC, bA, bN, bC, sA, sN, sC⟩ := H
    unfold runV at HE ⊢
    simp only [] at HE ⊢
    clear hR hB hfr hsl
    go_enter Tryz.func32, Tryz.ntmps32
    go_wp2_with (go_at_call 74; (with_reducible refine (HE.out _ (by (repeat' (first | (with_reducible exact Below.refl _ _) | (with_reducible assumption) | (with_reducible refine Below.alloc ?_ ?_ _) | (with_reducible refine Below.drew ?_) | (with_reducible refine Below.draws ?_ _) | (with_reducible refine Below.setCell ?_ ?_ _) | (refine Below.then ?_ (by with_reducible assumption)) | go_size)))).mono ?_); rintro e w1 ⟨a1, c1, rfl, h1, hb1⟩; have HX1 := Lib.hid h1; clear h1; have B1 : Hid (Below w.heap.size w w1) := Lib.hid (Below.trans (by (repeat' (first | (with_reducible exact Below.refl _ _) | (with_reducible assumption) | (with_reducible refine Below.alloc ?_ ?_ _) | (with_reducible refine Below.drew ?_) | (with_reducible refine Below.draws ?_ _) | (with_reducible refine Below.setCell ?_ ?_ _) | (refine Below.then ?_ (by with_reducible assumption)) | go_size))) (hb1.mono (by simp))); have z1 : w.heap.size < w1.heap.size := Nat.lt_of_lt_of_le (by simp) hb1.size; have c1_0 := (hb1.cell (p := ⟨w.heap.size, 0, none⟩) (by simp)).trans (by simp [go_sem]; rfl); have c1_1 := (hb1.cell (p := ⟨w.heap.size, 1, none⟩) (by simp)).trans (by simp [go_sem]; rfl); have c1_2 := (hb1.cell (p := ⟨w.heap.size, 2, none⟩) (by simp)).trans (by simp [go_sem]; rfl); have c1_3 := (hb1.cell (p := ⟨w.heap.size, 3, none⟩) (by simp)).trans (by simp [go_sem]; rfl); have c1_4 := (hb1.cell (p := ⟨w.heap.size, 4, none⟩) (by simp)).trans (by simp [go_sem]; rfl); have c1_5 := (hb1.cell (p := ⟨w.heap.size, 5, none⟩) (by simp)).trans (by simp [go_sem]; rfl); clear hb1)
    refine bodyPost_ret (results_tmp3 rfl _ _ _) rfl ?_
    exact ⟨rfl, B1.out⟩
  · rw [if_pos rfl, if_pos rfl] at HE
    rw [if_pos rfl]
    rw [Bool.and_eq_true, inB_iff] at hB
    obtain ⟨hr, hvl, _⟩ := run_ok hB.1
    have hv := valid_of hvl
    have hL5 := hr.r.len
    obtain ⟨X, hX⟩ : ∃ X, endX R t = X := ⟨_, rfl⟩
    have hXl : ∀ i, (X i).length = (evA R i).length := fun i => by rw [← hX]; exact endsRow_len _ _ _
    rw [hX] at HE
    obtain ⟨F, hF⟩ : ∃ F, lateF R t = F := ⟨_, rfl⟩
    rw [hF]
    obtain ⟨Z, hZ⟩ : ∃ Z : Int × Int × Int, (if 0 ≤ F.2.1 then (F.2.1, F.2.2, 15) else (-1, -1, 0)) = Z := ⟨_, rfl⟩
    rw [hZ]
    have HZ := Lib.hid hZ
    clear hZ
    unfold lateF at hF
    rw [hX] at hF
    have HR := Lib.hid hR.rd; have HRN := Lib.hid hr; have HV := Lib.hid hv; have HXL := Lib.hid hXl
    obtain ⟨nL, hnL⟩ : ∃ x, R.L.length = x := ⟨_, rfl⟩
    have HNL := Lib.hid hnL
    rw [hnL] at hF HE
    have HF0 : Hid (lateAll R X (nL - 0) 0 (t + 1, -1, -1) = F) := Lib.hid hF
    obtain ⟨fr, hfr⟩ : ∃ x, R.fr = x := ⟨_, rfl⟩
    obtain ⟨sl_, hsl⟩ : ∃ x, R.sl = x := ⟨_, rfl⟩
    rw [hfr, hsl] at HE ⊢
    obtain ⟨tA, tN, tC, eA, eN, eC, bA, bN, bC, sA, sN, sC⟩ := H
    unfold runV at HE ⊢
    simp only [] at HE HR ⊢
    have wt : IntKind.i64.wrap (t + 1) = t + 1 := IntWalk.i64_in _ (by omega)
    have ht := hB.2
    clear hR hB hfr hsl hnL hr hv hvl hF hX hXl
    go_enter Tryz.func32, Tryz.ntmps32
    go_wp2_with (go_at_call 74; (with_reducible refine (HE.out _ (by (repeat' (first | (with_reducible exact Below.refl _ _) | (with_reducible assumption) | (with_reducible refine Below.alloc ?_ ?_ _) | (with_reducible refine Below.drew ?_) | (with_reducible refine Below.draws ?_ _) | (with_reducible refine Below.setCell ?_ ?_ _) | (refine Below.then ?_ (by with_reducible assumption)) | go_size)))).mono ?_); rintro e w1 ⟨a1, c1, rfl, h1, hb1⟩; have HX1 := Lib.hid h1; clear h1; have B1 : Hid (Below w.heap.size w w1) := Lib.hid (Below.trans (by (repeat' (first | (with_reducible exact Below.refl _ _) | (with_reducible assumption) | (with_reducible refine Below.alloc ?_ ?_ _) | (with_reducible refine Below.drew ?_) | (with_reducible refine Below.draws ?_ _) | (with_reducible refine Below.setCell ?_ ?_ _) | (refine Below.then ?_ (by with_reducible assumption)) | go_size))) (hb1.mono (by simp))); have z1 : w.heap.size < w1.heap.size := Nat.lt_of_lt_of_le (by simp) hb1.size; have c1_0 := (hb1.cell (p := ⟨w.heap.size, 0, none⟩) (by simp)).trans (by simp [go_sem]; rfl); have c1_1 := (hb1.cell (p := ⟨w.heap.size, 1, none⟩) (by simp)).trans (by simp [go_sem]; rfl); have c1_2 := (hb1.cell (p := ⟨w.heap.size, 2, none⟩) (by simp)).trans (by simp [go_sem]; rfl); have c1_3 := (hb1.cell (p := ⟨w.heap.size, 3, none⟩) (by simp)).trans (by simp [go_sem]; rfl); have c1_4 := (hb1.cell (p := ⟨w.heap.size, 4, none⟩) (by simp)).trans (by simp [go_sem]; rfl); have c1_5 := (hb1.cell (p := ⟨w.heap.size, 5, none⟩) (by simp)).trans (by simp [go_sem]; rfl); clear hb1)
    go_loopw [4, 5, 9, 28] (fun v4 v5 v9 v28 wr => ∃ (i : Nat) (s : LS), i ≤ nL ∧ v9 = .int .i64 s.1 ∧ v4 = .int .i64 s.2.1 ∧ v5 = .int .i64 s.2.2 ∧ v28 = .int .i64 i ∧ lateAll R X (nL - i) i s = F ∧ Below w1.heap.size w1 wr) (fun _ _ _ v _ => nL - (intOf v).toNat)
    case atStart => exact ⟨0, _, Nat.zero_le _, rfl, rfl, rfl, rfl, HF0.out, Below.refl _ _⟩
    case round =>
      clear HF0
      obtain ⟨i, s, hi, rfl, rfl, rfl, rfl, hS, hB⟩ := hrel
      have HB := Lib.hid hB
      by_cases hin : i < nL
      · have hiL : i < R.L.length := by rw [HNL.out]; exact hin
        rw [show nL - i = (nL - (i + 1)) + 1 by omega, lateAll] at hS
        obtain ⟨xb, xoff, xa, en, xc, rfl, hxb, hxc, hxl, hxR⟩ := (HX1.out.ext hB).row hin
        have hel : (evA R i).length = en := by rw [← HXL.out i]; exact hxl
        rw [hel] at hS
        obtain ⟨S2, hS2⟩ : ∃ S2, lateRow R X i en 0 s = S2 := ⟨_, rfl⟩
        rw [hS2] at hS
        have HS := Lib.hid hS
        have HS2 : Hid (lateRow R X i (en - 0) 0 s = S2) := Lib.hid hS2
        have HEL := Lib.hid hel; have HXR := Lib.hid hxR
        have hens := hxR.small
        obtain ⟨wo, hwo⟩ : ∃ wo : World, wo = wr := ⟨_, rfl⟩
        rw [← hwo] at HB hxb hxc HXR ⊢
        clear hB hS hS2 hel hxR hwo hxl
        go_wp2
        go_loopw [4, 5, 9, 35] (fun v4 v5 v9 v35 wr => ∃ (k : Nat) (s : LS), k ≤ en ∧ v9 = .int .i64 s.1 ∧ v4 = .int .i64 s.2.1 ∧ v5 = .int .i64 s.2.2 ∧ v35 = .int .i64 k ∧ lateRow R X i (en - k) k s = S2 ∧ Below wo.heap.size wo wr) (fun _ _ _ v _ => en - (intOf v).toNat)
        case atStart => exact ⟨0, s, Nat.zero_le _, rfl, rfl, rfl, rfl, HS2.out, Below.refl _ _⟩
        case round =>
          clear HS2
          obtain ⟨k, u, hk, rfl, rfl, rfl, rfl, hS, hB⟩ := hrel
          have HB3 := Lib.hid (Below.then HB.out hB)
          have HB2 := Lib.hid hB
          by_cases hkn : k < en
          · rw [show en - k = (en - (k + 1)) + 1 by omega, lateRow] at hS
            obtain ⟨eb, eo, en', ec, vb, vo, x, y, tb, toff, d, hea, hc, hlen, g0, hta, h1, hdue, hx, hd, hebz, hvbz, htbz, hiT, hiE⟩ := (HR.out.ext (B1.out.trans (HB3.out.mono B1.out.size))).late HRN.out HV.out hiL (k := k) (by rw [HEL.out]; exact hkn)
            simp only [] at hea hta hiT hiE
            obtain rfl : en = en' := by rw [← hlen]; exact HEL.out.symm
            subst hea; subst hta
            have hXk := (HXR.out.ext hB).idx k hkn
            obtain ⟨z, zb, zo, hxa, hzb, hzc, hz⟩ := hXk
            have hxz : xAt X i k = z := by unfold xAt; rw [hz]; rfl
            have d0 := (HB3.out.cell (p := ⟨w.heap.size, 0, none⟩) z1).trans c1_0
            have d3 := (HB3.out.cell (p := ⟨w.heap.size, 3, none⟩) z1).trans c1_3
            have zz := Nat.lt_of_lt_of_le z1 HB3.out.size
            have wd : IntKind.i64.wrap (x + d) = x + d := IntWalk.i64_in _ (by omega)
            subst hxa
            unfold lateS at hS
            rw [hxz, ← hdue] at hS
            obtain ⟨D, hD⟩ : ∃ D, x + d = D := ⟨_, rfl⟩
            rw [hD] at hS wd
            obtain ⟨f, uu⟩ := u
            obtain ⟨ut, ue⟩ := uu
            simp only [] at hS ⊢
            clear hB hlen hdue hxz hz hx hd
            by_cases q1 : D < f
            · have q1' : decide (D < f) = true := by simpa using q1
              by_cases q2 : z < 0
              · have q2' : decide (z < 0) = true := by simpa using q2
                rw [if_pos ⟨q1, .inl q2⟩] at hS
                have HS3 := Lib.hid hS
                clear hS
                go_wp2_with (refine wp_region_later_lit (by kernel_rfl) (by kernel_rfl) ?_; (repeat (go_big_quiet_step (fail))); refine wpQuiet_nil ?_; intro w7 hb7)
                go_roundw
                case rel => exact ⟨k + 1, (D, (i : Int), (k : Int)), hkn, rfl, rfl, rfl, by go_num, HS3.out, Below.then HB2.out (Below.then (by (repeat' (first | (with_reducible exact Below.refl _ _) | (with_reducible assumption) | (with_reducible refine Below.alloc ?_ ?_ _) | (with_reducible refine Below.drew ?_) | (with_reducible refine Below.draws ?_ _) | (with_reducible refine Below.setCell ?_ ?_ _) | (refine Below.then ?_ (by with_reducible assumption)) | go_size))) hb7)⟩
                case measure => simp [intOf]; omega
              · have q2' : decide (z < 0) = false := by simpa using q2
                by_cases q3 : D < z
                · have q3' : decide (D < z) = true := by simpa using q3
                  rw [if_pos ⟨q1, .inr q3⟩] at hS
                  have HS3 := Lib.hid hS
                  clear hS
                  go_wp2_with (refine wp_region_later_lit (by kernel_rfl) (by kernel_rfl) ?_; (repeat (go_big_quiet_step (fail))); refine wpQuiet_nil ?_; intro w7 hb7)
                  go_roundw
                  case rel => exact ⟨k + 1, (D, (i : Int), (k : Int)), hkn, rfl, rfl, rfl, by go_num, HS3.out, Below.then HB2.out (Below.then (by (repeat' (first | (with_reducible exact Below.refl _ _) | (with_reducible assumption) | (with_reducible refine Below.alloc ?_ ?_ _) | (with_reducible refine Below.drew ?_) | (with_reducible refine Below.draws ?_ _) | (with_reducible refine Below.setCell ?_ ?_ _) | (refine Below.then ?_ (by with_reducible assumption)) | go_size))) hb7)⟩
                  case measure => simp [intOf]; omega
                · have q3' : decide (D < z) = false := by simpa using q3
                  rw [if_neg (fun q => q.2.elim q2 q3)] at hS
                  have HS3 := Lib.hid hS
                  clear hS
                  go_wp2_with (refine wp_region_later_lit (by kernel_rfl) (by kernel_rfl) ?_; (repeat (go_big_quiet_step (fail))); refine wpQuiet_nil ?_; intro w7 hb7)
                  go_roundw
                  case rel => exact ⟨k + 1, (f, ut, ue), hkn, rfl, rfl, rfl, by go_num, HS3.out, Below.then HB2.out (Below.then (by (repeat' (first | (with_reducible exact Below.refl _ _) | (with_reducible assumption) | (with_reducible refine Below.alloc ?_ ?_ _) | (with_reducible refine Below.drew ?_) | (with_reducible refine Below.draws ?_ _) | (with_reducible refine Below.setCell ?_ ?_ _) | (refine Below.then ?_ (by with_reducible assumption)) | go_size))) hb7)⟩
                  case measure => simp [intOf]; omega
            · have q1' : decide (D < f) = false := by simpa using q1
              rw [if_neg (fun q => q1 q.1)] at hS
              have HS3 := Lib.hid hS
              clear hS
              go_wp2_with (refine wp_region_later_lit (by kernel_rfl) (by kernel_rfl) ?_; (repeat (go_big_quiet_step (fail))); refine wpQuiet_nil ?_; intro w7 hb7)
              go_roundw
              case rel => exact ⟨k + 1, (f, ut, ue), hkn, rfl, rfl, rfl, by go_num, HS3.out, Below.then HB2.out (Below.then (by (repeat' (first | (with_reducible exact Below.refl _ _) | (with_reducible assumption) | (with_reducible refine Below.alloc ?_ ?_ _) | (with_reducible refine Below.drew ?_) | (with_reducible refine Below.draws ?_ _) | (with_reducible refine Below.setCell ?_ ?_ _) | (refine Below.then ?_ (by with_reducible assumption)) | go_size))) hb7)⟩
              case measure => simp [intOf]; omega
          · have hke : u = S2 := by rw [show en - k = 0 by omega] at hS; exact hS
            subst hke
            clear hS hB
            go_wp2
            go_roundw
            case rel => exact ⟨i + 1, u, hin, rfl, rfl, rfl, by go_num, HS.out, HB3.out⟩
            case measure => simp [intOf]; omega
      · have hie : s = F := by rw [show nL - i = 0 by omega] at hS; exact hS
        subst hie
        clear hS hB
        obtain ⟨f, ut, ue⟩ := s
        simp only []
        by_cases q : 0 ≤ ut
        · have q' : decide (0 ≤ ut) = true := by simpa using q
          obtain rfl : Z = (ut, ue, 15) := by rw [← HZ.out]; exact if_pos q
          go_wp2
          refine bodyPost_ret (results_tmp3 rfl _ _ _) rfl ?_
          exact ⟨rfl, B1.out.trans (HB.out.mono B1.out.size)⟩
        · have q' : decide (0 ≤ ut) = false := by simpa using q
          obtain rfl : Z = (-1, -1, 0) := by rw [← HZ.out]; exact if_neg q
          go_wp2
          refine bodyPost_ret (results_tmp3 rfl _ _ _) rfl ?_
          exact ⟨rfl, B1.out.trans (HB.out.mono B1.out.size)⟩
end Go.Proofs.YtlhnhmimhpcoaaaGreat
