/- Orders of tasks: the plain part of Assign. No condition: plain lemmas. -/
import Derived.Test.YtabbmnnohnfbeaaRsSim
import Derived.Test.YtabbmnnohnfbeaaRsAcc
namespace Go.Proofs.Ytabbmnnohnfbeaa
open Go.RowKit
set_option linter.unusedSimpArgs false
set_option linter.unusedVariables false
def setPri (L : List Ta) (k : Int) (p : Int) : List Ta := L.set k.toNat { taAt L k with pri := p }
/-- tasks with the priorities of an order, the first rank first -/
def ordFrom (N : Nat) : Nat → List Int → List Ta → List Ta
  | _, [], L => L
  | r, k :: ks, L => ordFrom N (r + 1) ks (setPri L k ((N : Int) - 1 - r))
def ordL (L : List Ta) (o : List Int) : List Ta := ordFrom o.length 0 o L
theorem setPri_len (L : List Ta) (k p : Int) : (setPri L k p).length = L.length := by simp [setPri]
theorem ordFrom_len (N : Nat) : ∀ (ks : List Int) (r : Nat) (L : List Ta), (ordFrom N r ks L).length = L.length
  | [], _, _ => rfl
  | k :: ks, r, L => by rw [ordFrom, ordFrom_len N ks, setPri_len]
theorem ordL_len (L : List Ta) (o : List Int) : (ordL L o).length = L.length := ordFrom_len _ _ _ _
theorem setPri_at {L : List Ta} {k : Int} (h0 : 0 ≤ k) (h1 : k < L.length) (p : Int) {i : Int} (hi : 0 ≤ i) : taAt (setPri L k p) i = if i = k then { taAt L k with pri := p } else taAt L i := by
  unfold setPri
  simp only [taAt, List.getElem?_set]
  by_cases e : i = k
  · subst e
    rw [if_pos rfl, if_pos rfl, if_pos (by omega)]; rfl
  · rw [if_neg (by omega), if_neg e]
/-- the priority that an order gives -/
def prO (N : Nat) : Nat → List Int → Int → Int → Int
  | _, [], _, p => p
  | r, k :: ks, i, p => prO N (r + 1) ks i (if i = k then (N : Int) - 1 - r else p)
theorem ordFrom_at (N : Nat) {i : Int} (hi : 0 ≤ i) : ∀ (ks : List Int) (r : Nat) (L : List Ta), (∀ k ∈ ks, 0 ≤ k ∧ k < L.length) → taAt (ordFrom N r ks L) i = { taAt L i with pri := prO N r ks i (taAt L i).pri }
  | [], _, L, _ => rfl
  | k :: ks, r, L, h => by
    have hk := h k (by simp)
    rw [ordFrom, ordFrom_at N hi ks (r + 1) _ (fun j hj => by rw [setPri_len]; exact h j (by simp [hj])), setPri_at hk.1 hk.2 _ hi, prO]
    by_cases e : i = k
    · subst e; rw [if_pos rfl, if_pos rfl]
    · rw [if_neg e, if_neg e]
theorem prO_no (N : Nat) {i : Int} : ∀ (ks : List Int) (r : Nat) (p : Int), i ∉ ks → prO N r ks i p = p
  | [], _, _, _ => rfl
  | k :: ks, r, p, h => by
    rw [prO, if_neg (fun e => h (by simp [e]))]
    exact prO_no N ks (r + 1) p (fun hm => h (by simp [hm]))
theorem prO_get (N : Nat) {i : Int} : ∀ (ks : List Int) (r j : Nat) (p : Int), ks.Nodup → ks[j]? = some i → prO N r ks i p = (N : Int) - 1 - ((r + j : Nat) : Int)
  | [], _, _, _, _, h => by simp at h
  | k :: ks, r, 0, p, hn, h => by
    simp at h; subst h
    rw [prO, if_pos rfl]
    exact prO_no N ks _ _ (List.nodup_cons.1 hn).1
  | k :: ks, r, j + 1, p, hn, h => by
    rw [prO, prO_get N ks (r + 1) j _ (List.nodup_cons.1 hn).2 (by simpa using h)]
    omega
/-- an order of all tasks -/
structure IsOrd (n : Nat) (o : List Int) : Prop where
  perm : o.Perm (idxs n)
theorem IsOrd.nodup {n : Nat} {o : List Int} (h : IsOrd n o) : o.Nodup := h.perm.nodup_iff.2 (idxs_nodup n)
theorem IsOrd.mem {n : Nat} {o : List Int} (h : IsOrd n o) {x : Int} : x ∈ o ↔ 0 ≤ x ∧ x < n := by rw [h.perm.mem_iff, idxs_mem]
theorem IsOrd.len {n : Nat} {o : List Int} (h : IsOrd n o) : o.length = n := by rw [h.perm.length_eq, idxs_len]
theorem ordL_at {L : List Ta} {o : List Int} (h : IsOrd L.length o) {i : Int} (hi : 0 ≤ i) : taAt (ordL L o) i = { taAt L i with pri := prO o.length 0 o i (taAt L i).pri } :=
  ordFrom_at _ hi o 0 L (fun k hk => h.mem.1 hk)
theorem ordL_pri {L : List Ta} {o : List Int} (h : IsOrd L.length o) {i : Int} {j : Nat} (hj : o[j]? = some i) : priI (ordL L o) i = (L.length : Int) - 1 - j := by
  have hi := h.mem.1 (List.mem_of_getElem? hj)
  unfold priI
  rw [ordL_at h hi.1]
  show prO _ _ _ _ _ = _
  rw [prO_get _ o 0 j _ h.nodup hj, h.len]
  omega
theorem ordL_ahead {L : List Ta} {o : List Int} (h : IsOrd L.length o) {a b : Int} {p q : Nat} (hp : o[p]? = some a) (hq : o[q]? = some b) : Ahead (ordL L o) a b ↔ p < q := by
  unfold Ahead
  rw [ordL_pri h hp, ordL_pri h hq]
  constructor
  · rintro (h1 | ⟨h1, h2⟩)
    · omega
    · have : p = q := by omega
      subst this; rw [hp] at hq; simp at hq; omega
  · intro h1; left; omega
theorem idx_of_mem {o : List Int} {x : Int} (h : x ∈ o) : ∃ p : Nat, o[p]? = some x := List.getElem?_of_mem h
/-- those ahead of a task are those in front of it -/
theorem ordL_front {L : List Ta} {pre post : List Int} {k : Int} (h : IsOrd L.length (pre ++ k :: post)) : (aheadL (ordL L (pre ++ k :: post)) k).Perm pre := by
  have hk : (pre ++ k :: post)[pre.length]? = some k := by simp
  have hnp : pre.Nodup := (List.nodup_append.1 h.nodup).1
  refine (List.perm_ext_iff_of_nodup ((idxs_nodup _).filter _) hnp).2 (fun x => ?_)
  show x ∈ aheadL (ordL L (pre ++ k :: post)) k ↔ _
  rw [aheadL_mem, ordL_len, aheadB_iff]
  constructor
  · rintro ⟨hx, ha⟩
    obtain ⟨p, hp⟩ := idx_of_mem (h.mem.2 hx)
    have := (ordL_ahead h hp hk).1 ha
    rw [List.getElem?_append_left this] at hp
    exact List.mem_of_getElem? hp
  · intro hx
    obtain ⟨p, hp⟩ := idx_of_mem hx
    have hlt := (List.getElem?_eq_some_iff.1 hp).1
    have hp' : (pre ++ k :: post)[p]? = some x := by rw [List.getElem?_append_left hlt]; exact hp
    exact ⟨h.mem.1 (List.mem_of_getElem? hp'), (ordL_ahead h hp' hk).2 hlt⟩
theorem demL_same {K L : List Ta} {v : Int} : ∀ (ks : List Int) (n : Int), (∀ k ∈ ks, demT (taAt K k) v = demT (taAt L k) v) → demL K v ks n = demL L v ks n
  | [], _, _ => rfl
  | k :: ks, n, h => by
    show demL K v ks (n + demT (taAt K k) v) = demL L v ks (n + demT (taAt L k) v)
    rw [h k (by simp)]
    exact demL_same ks _ (fun j hj => h j (by simp [hj]))
theorem ordL_dem {L : List Ta} {pre post : List Int} {k : Int} (h : IsOrd L.length (pre ++ k :: post)) (v : Int) :
    demN (ordL L (pre ++ k :: post)) k v = demL L v pre (costT (taAt L k) + blockN (ordL L (pre ++ k :: post)) k) := by
  have hk := h.mem.1 (show k ∈ pre ++ k :: post by simp)
  have e1 : ownN (ordL L (pre ++ k :: post)) k = costT (taAt L k) + blockN (ordL L (pre ++ k :: post)) k := by
    unfold ownN; rw [ordL_at h hk.1]; rfl
  unfold demN
  rw [demL_perm (ordL_front h), e1]
  refine demL_same pre _ (fun j hj => ?_)
  have hj' := h.mem.1 (show j ∈ pre ++ k :: post by simp [hj])
  rw [ordL_at h hj'.1]; rfl
/-- the order in which a task is tried -/
def tryO (free : List Int) (k : Int) (placed : List Int) : List Int := free.filter (fun n => !(n == k)) ++ k :: placed
def asgF (L : List Ta) (F S : Int) : Nat → List Int → List Int → Option (List Int)
  | 0, _, placed => some placed
  | f + 1, free, placed =>
    match free.find? (fun k => meetB (ordL L (tryO free k placed)) F S k) with
    | none => none
    | some k => asgF L F S f (free.filter (fun n => !(n == k))) (k :: placed)
def asgR (L : List Ta) (F S : Int) : List Int × Int :=
  if okB L F S then
    match asgF L F S L.length (idxs L.length) [] with
    | none => ([], 3)
    | some p => if accB (ordL L p) F S then ((ordL L p).map Ta.pri, 0) else ([], 3)
  else ([], 1)
structure FreeOk (n : Nat) (free placed : List Int) : Prop where
  perm : (free ++ placed).Perm (idxs n)
theorem FreeOk.nodup {n : Nat} {free placed : List Int} (h : FreeOk n free placed) : free.Nodup ∧ placed.Nodup ∧ ∀ a ∈ free, a ∉ placed := by
  have := h.perm.nodup_iff.2 (idxs_nodup n)
  obtain ⟨h1, h2, h3⟩ := List.nodup_append.1 this
  exact ⟨h1, h2, fun a ha hb => h3 a ha a hb rfl⟩
theorem filter_ne_perm {free : List Int} {k : Int} (hn : free.Nodup) (hk : k ∈ free) : (free.filter (fun n => !(n == k)) ++ [k]).Perm free := by
  refine (List.perm_ext_iff_of_nodup ?_ hn).2 (fun x => ?_)
  · refine List.nodup_append.2 ⟨hn.filter _, by simp, fun a ha b hb => ?_⟩
    simp at ha hb; omega
  · simp only [List.mem_append, List.mem_filter, List.mem_singleton, Bool.not_eq_true', beq_eq_false_iff_ne]
    constructor
    · rintro (⟨h1, _⟩ | rfl)
      · exact h1
      · exact hk
    · intro h
      by_cases e : x = k
      · exact .inr e
      · exact .inl ⟨h, e⟩
theorem FreeOk.tryO {n : Nat} {free placed : List Int} (h : FreeOk n free placed) {k : Int} (hk : k ∈ free) : IsOrd n (tryO free k placed) := by
  refine ⟨?_⟩
  have h1 := filter_ne_perm h.nodup.1 hk
  unfold Proofs.Ytabbmnnohnfbeaa.tryO
  have : (free.filter (fun n => !(n == k)) ++ k :: placed) = (free.filter (fun n => !(n == k)) ++ [k]) ++ placed := by simp
  rw [this]
  exact (h1.append_right placed).trans h.perm
theorem FreeOk.step {n : Nat} {free placed : List Int} (h : FreeOk n free placed) {k : Int} (hk : k ∈ free) : FreeOk n (free.filter (fun n => !(n == k))) (k :: placed) := ⟨(h.tryO hk).perm⟩
theorem FreeOk.start (n : Nat) : FreeOk n (idxs n) [] := ⟨by simp⟩
theorem asgF_ord {L : List Ta} {F S : Int} : ∀ (f : Nat) (free placed p : List Int), FreeOk L.length free placed → free.length = f → asgF L F S f free placed = some p → IsOrd L.length p
  | 0, free, placed, p, h, hl, e => by
    simp [asgF] at e; subst e
    obtain rfl : free = [] := List.length_eq_zero_iff.1 hl
    exact ⟨by simpa using h.perm⟩
  | f + 1, free, placed, p, h, hl, e => by
    rw [asgF] at e
    split at e
    · simp at e
    · rename_i k hk
      have hm := List.mem_of_find?_eq_some hk
      refine asgF_ord f _ _ p (h.step hm) ?_ e
      have := (filter_ne_perm h.nodup.1 hm).length_eq
      simp at this; omega
theorem asg_ord {L : List Ta} {F S : Int} {p : List Int} (h : asgF L F S L.length (idxs L.length) [] = some p) : IsOrd L.length p :=
  asgF_ord _ _ _ p (FreeOk.start _) (idxs_len _) h
theorem ordL_mem {L : List Ta} {o : List Int} (h : IsOrd L.length o) {u : Ta} (hu : u ∈ ordL L o) : ∃ t ∈ L, ∃ p : Int, 0 ≤ p ∧ p < L.length ∧ u = { t with pri := p } := by
  obtain ⟨i, hi⟩ := List.getElem?_of_mem hu
  have hlt := (List.getElem?_eq_some_iff.1 hi).1
  rw [ordL_len] at hlt
  have e := taAt_of hi
  obtain ⟨j, hj⟩ := idx_of_mem (x := (i : Int)) (h.mem.2 ⟨by omega, by omega⟩)
  have hjl := (List.getElem?_eq_some_iff.1 hj).1
  rw [h.len] at hjl
  have hp := ordL_pri h hj
  unfold priI at hp
  rw [ordL_at h (by omega)] at e hp
  simp only [] at hp
  refine ⟨taAt L i, taAt_mem' (by omega) (by omega), (L.length : Int) - 1 - j, by omega, by omega, ?_⟩
  rw [← e, hp]
theorem ordL_valid {L : List Ta} {o : List Int} (hv : ValidT L) (h : IsOrd L.length o) : validL (ordL L o) = true := by
  have hl := hv.r.len
  unfold validL
  rw [Bool.and_eq_true, List.all_eq_true]
  constructor
  · unfold rightB
    rw [Bool.and_eq_true, decide_eq_true_eq, List.all_eq_true]
    refine ⟨by rw [ordL_len]; exact hl, fun u hu => ?_⟩
    obtain ⟨t, ht, p, h0, h1, rfl⟩ := ordL_mem h hu
    have h2 := hv.r.pcs t ht
    unfold taskB
    rw [Bool.and_eq_true, Bool.and_eq_true, inB_iff, inB_iff, List.all_eq_true]
    refine ⟨⟨by simp only []; omega, by simp only []; omega⟩, fun q hq => ?_⟩
    have := hv.r.piece t ht q hq
    unfold pieceB
    simp only [Bool.and_eq_true, inB_iff]
    omega
  · intro u hu
    obtain ⟨t, ht, p, h0, h1, rfl⟩ := ordL_mem h hu
    exact patB_iff.2 ⟨hv.vp t ht, hv.dl t ht⟩
end Go.Proofs.Ytabbmnnohnfbeaa
