/- Without locks, Assign finds an order wherever there is one. No condition: plain lemmas. -/
import Derived.Test.YtabbmnnohnfbeaaAsPure
namespace Go.Proofs.Ytabbmnnohnfbeaa
open Go.RowKit
set_option linter.unusedSimpArgs false
set_option linter.unusedVariables false
def NoLock (L : List Ta) : Prop := ∀ t ∈ L, ∀ p ∈ t.pcs, p.2 < 0
theorem blkP_none {L : List Ta} {t j : Int} : ∀ (ps : List P2) (k : Nat), (∀ p ∈ ps, p.2 < 0) → blkP L t j k ps = []
  | [], _, _ => rfl
  | p :: ps, k, h => by
    rw [blkP, if_neg (fun e => by have := h p (by simp); omega)]
    exact blkP_none ps (k + 1) (fun q hq => h q (by simp [hq]))
theorem blkFrom_none {L : List Ta} {t : Int} : ∀ (f j : Nat), (∀ i : Nat, i < j + f → ∀ p ∈ (taAt L i).pcs, p.2 < 0) → blkFrom L t f j = []
  | 0, _, _ => rfl
  | f + 1, j, h => by
    rw [blkFrom, blkP_none _ 0 (h j (by omega)), blkFrom_none f (j + 1) (fun i hi => h i (by omega))]
    simp
theorem NoLock.block {L : List Ta} (h : NoLock L) (t : Int) : blockN L t = 0 := by
  unfold blockN blockL
  rw [blkFrom_none _ _ (fun i hi p hp => h (taAt L i) (taAt_mem' (by omega) (by omega)) p hp)]
  rfl
theorem ordL_nolock {L : List Ta} (h : NoLock L) {o : List Int} (ho : IsOrd L.length o) : NoLock (ordL L o) := by
  intro t ht p hp
  obtain ⟨i, hi⟩ := List.getElem?_of_mem ht
  have hlt := (List.getElem?_eq_some_iff.1 hi).1
  rw [ordL_len] at hlt
  have e := taAt_of hi
  rw [ordL_at ho (by omega)] at e
  subst e
  exact h (taAt L i) (taAt_mem' (by omega) (by omega)) p hp
/-- a window that demands no more is no greater -/
theorem win_le {K L : List Ta} {F S i j : Int} (hd : ∀ v : Nat, 1 ≤ v → v ≤ 2000 → demN K i v ≤ demN L j v) (h : 0 < winN L F S j) : 0 < winN K F S i ∧ winN K F S i ≤ winN L F S j := by
  obtain ⟨y, hy, y1, y2, y3, _⟩ := (isWin L F S j).some_ (by omega)
  have hd' := hd y y1 (by omega)
  have hI := isWin K F S i
  have hb := winN_bd K F S i
  by_cases h0 : winN K F S i = 0
  · exact absurd (by omega) (hI.none_ h0 y y1 y2)
  · obtain ⟨x, hx, x1, x2, x3, x4⟩ := hI.some_ h0
    have hxy : x ≤ y := by
      rcases Nat.lt_or_ge y x with q | q
      · exact absurd (by omega) (x4 y y1 q)
      · exact q
    omega
theorem meet_le {K L : List Ta} {F S i j : Int} (hd : ∀ v : Nat, 1 ≤ v → v ≤ 2000 → demN K i v ≤ demN L j v) (hj : (taAt K i).jit = (taAt L j).jit) (hl : (taAt K i).dl = (taAt L j).dl) (h : meetB L F S j = true) : meetB K F S i = true := by
  unfold meetB at h ⊢
  rw [Bool.and_eq_true, decide_eq_true_eq, decide_eq_true_eq] at h ⊢
  have := win_le hd h.1
  omega
theorem ordL_demN {L : List Ta} (hn : NoLock L) {pre post : List Int} {k : Int} (h : IsOrd L.length (pre ++ k :: post)) (v : Int) : demN (ordL L (pre ++ k :: post)) k v = demL L v pre (costT (taAt L k)) := by
  rw [ordL_dem h, (ordL_nolock hn h).block, Int.add_zero]
theorem ordL_meet {L : List Ta} (hn : NoLock L) {F S : Int} {pre pre' post post' : List Int} {k : Int} (h : IsOrd L.length (pre ++ k :: post)) (h' : IsOrd L.length (pre' ++ k :: post')) (hp : pre.Perm pre') (hm : meetB (ordL L (pre ++ k :: post)) F S k = true) : meetB (ordL L (pre' ++ k :: post')) F S k = true := by
  have hk := h.mem.1 (show k ∈ pre ++ k :: post by simp)
  refine meet_le (fun v _ _ => ?_) ?_ ?_ hm
  · rw [ordL_demN hn h, ordL_demN hn h', demL_perm hp]; exact Int.le_refl _
  · rw [ordL_at h hk.1, ordL_at h' hk.1]
  · rw [ordL_at h hk.1, ordL_at h' hk.1]
theorem demL_sub {L : List Ta} (hv : ValidT L) {v : Int} (hv0 : 0 ≤ v ∧ v ≤ 1000000) {ks ms : List Int} (hk : ks.Nodup) (hm : ms.Nodup) (hs : ∀ x ∈ ks, x ∈ ms) (hr : ∀ x ∈ ms, 0 ≤ x ∧ x < L.length) (n : Int) : demL L v ks n ≤ demL L v ms n := by
  have hp : (ms.filter (fun x => decide (x ∈ ks))).Perm ks := by
    refine (List.perm_ext_iff_of_nodup (hm.filter _) hk).2 (fun x => ?_)
    simp only [List.mem_filter, decide_eq_true_eq]
    exact ⟨fun h => h.2, fun h => ⟨hs x h, h⟩⟩
  rw [← demL_perm hp]
  exact demL_nonneg ms n (fun k hk => (demT_bd hv (taAt_mem' (hr k hk).1 (hr k hk).2) hv0).1)
/-- the last of some tasks -/
theorem last_of {L : List Ta} : ∀ (free : List Int), free ≠ [] → free.Nodup → ∃ k ∈ free, ∀ j ∈ free, j ≠ k → Ahead L j k
  | [], h, _ => absurd rfl h
  | [x], _, _ => ⟨x, by simp, fun j hj hne => by simp at hj; exact absurd hj hne⟩
  | x :: y :: l, _, hn => by
    obtain ⟨k, hk, hl⟩ := last_of (y :: l) (by simp) (List.nodup_cons.1 hn).2
    have hxk : x ≠ k := fun e => (List.nodup_cons.1 hn).1 (e ▸ hk)
    rcases ahead_total (L := L) hxk with h | h
    · refine ⟨k, by simp [hk], fun j hj hne => ?_⟩
      rcases List.mem_cons.1 hj with rfl | hj
      · exact h
      · exact hl j hj hne
    · refine ⟨x, by simp, fun j hj hne => ?_⟩
      rcases List.mem_cons.1 hj with rfl | hj
      · exact absurd rfl hne
      · by_cases e : j = k
        · subst e; exact h
        · exact ahead_trans j k x (hl j hj e) h
theorem find_some_of {α : Type} {p : α → Bool} {l : List α} {x : α} (hx : x ∈ l) (hp : p x = true) : ∃ y, l.find? p = some y := by
  cases h : l.find? p with
  | none => rw [List.find?_eq_none] at h; exact absurd hp (h x hx)
  | some y => exact ⟨y, rfl⟩
/-- whoever has a place meets its deadline, whatever the order of those in front -/
def PlacedOk (L : List Ta) (F S : Int) : List Int → List Int → Prop
  | _, [] => True
  | front, k :: ks => meetB (ordL L (front ++ k :: ks)) F S k = true ∧ PlacedOk L F S (front ++ [k]) ks
theorem PlacedOk.perm {L : List Ta} (hn : NoLock L) {F S : Int} : ∀ (ks front front' : List Int), IsOrd L.length (front ++ ks) → front.Perm front' → PlacedOk L F S front ks → PlacedOk L F S front' ks
  | [], _, _, _, _, _ => trivial
  | k :: ks, front, front', ho, hp, h => by
    have ho' : IsOrd L.length (front' ++ k :: ks) := ⟨(hp.symm.append_right (k :: ks)).trans ho.perm⟩
    refine ⟨ordL_meet hn ho ho' hp h.1, ?_⟩
    exact PlacedOk.perm hn ks (front ++ [k]) (front' ++ [k]) ⟨by simpa using ho.perm⟩ (hp.append_right [k]) h.2
theorem PlacedOk.all {L : List Ta} {F S : Int} : ∀ (ks front : List Int), PlacedOk L F S front ks → ∀ k ∈ ks, ∃ pre post, front ++ ks = pre ++ k :: post ∧ meetB (ordL L (pre ++ k :: post)) F S k = true
  | [], _, _, k, hk => by simp at hk
  | x :: ks, front, h, k, hk => by
    rcases List.mem_cons.1 hk with rfl | hk
    · exact ⟨front, ks, rfl, h.1⟩
    · obtain ⟨pre, post, e, hm⟩ := PlacedOk.all ks (front ++ [x]) h.2 k hk
      exact ⟨pre, post, by simpa using e, hm⟩
theorem asg_step {L : List Ta} (hv : ValidT L) (hn : NoLock L) {F S : Int} (ha : accB L F S = true) {free placed : List Int} (h : FreeOk L.length free placed) (hne : free ≠ []) :
    ∃ k, free.find? (fun k => meetB (ordL L (tryO free k placed)) F S k) = some k := by
  obtain ⟨k, hk, hl⟩ := last_of (L := L) free hne h.nodup.1
  refine find_some_of hk ?_
  have ho := h.tryO hk
  have hkr := ho.mem.1 (show k ∈ tryO free k placed by unfold tryO; simp)
  have hmk : meetB L F S k = true := by
    obtain ⟨j, rfl⟩ := Int.eq_ofNat_of_zero_le hkr.1
    exact accB_iff.1 ha j (by omega)
  refine meet_le (fun v v1 v2 => ?_) ?_ ?_ hmk
  · have e := ordL_demN hn (pre := free.filter (fun n => !(n == k))) (post := placed) (k := k) ho v
    unfold tryO
    rw [e]
    have e2 : demN L k v = demL L v (aheadL L k) (costT (taAt L k)) := by unfold demN ownN; rw [hn.block, Int.add_zero]
    rw [e2]
    refine demL_sub hv ⟨by omega, by omega⟩ (h.nodup.1.filter _) ((idxs_nodup _).filter _) (fun x hx => ?_) (fun x hx => (aheadL_mem.1 hx).1) _
    simp only [List.mem_filter, Bool.not_eq_true', beq_eq_false_iff_ne] at hx
    exact aheadL_mem.2 ⟨ho.mem.1 (by unfold tryO; simp [hx]), aheadB_iff.2 (hl x hx.1 hx.2)⟩
  · rw [ordL_at ho hkr.1]
  · rw [ordL_at ho hkr.1]
theorem asgF_finds {L : List Ta} (hv : ValidT L) (hn : NoLock L) {F S : Int} (ha : accB L F S = true) : ∀ (f : Nat) (free placed : List Int), FreeOk L.length free placed → free.length = f → PlacedOk L F S free placed → ∃ p, asgF L F S f free placed = some p ∧ PlacedOk L F S [] p
  | 0, free, placed, h, hl, hp => by
    obtain rfl : free = [] := List.length_eq_zero_iff.1 hl
    exact ⟨placed, rfl, hp⟩
  | f + 1, free, placed, h, hl, hp => by
    obtain ⟨k, hk⟩ := asg_step hv hn ha h (by intro e; rw [e] at hl; simp at hl)
    have hm := List.mem_of_find?_eq_some hk
    have hmk := List.find?_some hk
    have hfl := filter_ne_perm h.nodup.1 hm
    rw [asgF, hk]
    refine asgF_finds hv hn ha f _ _ (h.step hm) (by have := hfl.length_eq; simp at this; omega) ⟨hmk, ?_⟩
    exact PlacedOk.perm hn placed free _ ⟨h.perm⟩ hfl.symm hp
theorem asg_finds {L : List Ta} (hv : ValidT L) (hn : NoLock L) {F S : Int} (ha : accB L F S = true) : ∃ p, asgF L F S L.length (idxs L.length) [] = some p ∧ accB (ordL L p) F S = true := by
  obtain ⟨p, hp, hok⟩ := asgF_finds hv hn ha L.length (idxs L.length) [] (FreeOk.start _) (idxs_len _) trivial
  have ho := asg_ord hp
  refine ⟨p, hp, accB_iff.2 (fun j hj => ?_)⟩
  rw [ordL_len] at hj
  obtain ⟨pre, post, e, hm⟩ := PlacedOk.all p [] hok (j : Int) (ho.mem.2 ⟨by omega, by omega⟩)
  rw [List.nil_append] at e
  rw [e]; exact hm
end Go.Proofs.Ytabbmnnohnfbeaa
