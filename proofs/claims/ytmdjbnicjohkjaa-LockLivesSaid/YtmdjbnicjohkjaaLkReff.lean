/- The contract of effective and Effective of the reference. The conditions: the graph reads as named. -/
import Derived.Test.YtmdjbnicjohkjaaLkEff
import Derived.Test.YtmdjbnicjohkjaaLkEffEq
import Derived.Test.YtmdjbnicjohkjaaLkRvalid
namespace Go.Proofs.Ytmdjbnicjohkjaa
open Go.RowKit
set_option linter.unusedSimpArgs false
set_option linter.unusedVariables false
/-- the row with the places below i done -/
def effPart (g : List Th) (n i : Nat) : List Int := (List.range n).map fun j => if j < i then effV g j else 0
theorem effPart_get {g : List Th} {n i : Nat} (hi : i < n) : (effPart g n i)[i]? = some 0 := by simp [effPart, hi]
theorem effPart_set {g : List Th} {n i : Nat} (hi : i < n) : (effPart g n i).set i (effV g i) = effPart g n (i + 1) := by
  apply List.ext_getElem?
  intro j
  rw [List.getElem?_set]
  by_cases hj : j < n
  · by_cases e : i = j
    · subst e; simp [effPart, hj]
    · rw [if_neg e]
      simp [effPart, hj]
      by_cases h : j < i
      · rw [if_pos h, if_pos (by omega)]
      · rw [if_neg h, if_neg (by omega)]
  · rw [List.getElem?_eq_none (by simp [effPart]; omega), List.getElem?_eq_none (by simp [effPart]; omega)]
    split
    · simp [effPart]; omega
    · rfl
theorem effPart_zero {g : List Th} {n : Nat} : effPart g n 0 = List.replicate n 0 := by
  apply List.ext_getElem?
  intro j
  by_cases hj : j < n
  · simp [effPart, hj]
  · rw [List.getElem?_eq_none (by simp [effPart]; omega), List.getElem?_eq_none (by simp; omega)]
theorem effPart_all {g : List Th} : effPart g g.length g.length = (List.range g.length).map (effV g) := by
  unfold effPart
  apply List.map_congr_left
  intro j hj
  rw [if_pos (List.mem_range.1 hj)]
theorem effQ_step {g : List Th} {i f k : Nat} {v R : Int} (h : effQ g i (f + 1) k v = R) : effQ g i f (k + 1) (if hasB (chainG g k) i = true then max v (priG g k) else v) = R := h
set_option maxRecDepth 10000 in
set_option maxHeartbeats 2000000 in
theorem reffective_any (a : Option Addr) (n c : Nat) (g : List ThV) (hn8 : n ≤ 1000) (w : World) (hG : RdG w a n g) :
    Calls Try.prog 63 #[.slice a n c] w (OutI w.heap.size w ((List.range n).map (effV (g.map ThV.th)))) := by
  have hgl : (g.map ThV.th).length = n := by simp [hG.length]
  have hall : effPart (g.map ThV.th) n n = (List.range n).map (effV (g.map ThV.th)) := by have := effPart_all (g := g.map ThV.th); rw [hgl] at this; exact this
  rw [← hall]
  clear hall
  have HGL := Lib.hid hgl
  have HR := Lib.hid hG
  have HG0 := Lib.hid hG.length
  clear hgl hG
  go_enter Try.func63, Try.ntmps63
  go_wp2_with (at_make; refine wpList_mkI rfl _ _ rfl n rfl rfl rfl rfl (by omega) (Nat.le_refl _) ?_; intro w1 hown1 hb1 hlt1; have HO1 := Lib.hid hown1; clear hown1)
  go_loopw [4] (fun i wr => ∃ (k : Nat), k ≤ n ∧ i = .int .i64 k ∧ wr.ownsRow w.heap.size 3 1 (.slice (some ⟨w.heap.size, 0, none⟩) n n) n ((effPart (g.map ThV.th) n k).flatMap enc1) ∧ w.heap.size < wr.heap.size ∧ Below w.heap.size w wr) (fun i _ => n - (intOf i).toNat)
  case atStart => exact ⟨0, Nat.zero_le _, rfl, by rw [effPart_zero]; exact HO1.out, hlt1, hb1⟩
  case round =>
    obtain ⟨k, hk, rfl, hown, hz, hB⟩ := hrel
    have HO := Lib.hid hown; have HB := Lib.hid hB
    clear hown hB HO1 hb1 hlt1
    by_cases hlt : k < n
    · obtain ⟨⟨pri, ta, tn, tc, waits, holds⟩, b, off, rfl, hb, h1, h2, h3, ht, hgi, HD⟩ := (HR.out.ext HB.out).at_ k hlt
      simp only [] at h1 h2 h3
      obtain ⟨x, hx, hcx, hfx, hqx⟩ := ownsI_at HO.out k hlt
      obtain ⟨R, hR⟩ : ∃ R, R = effV (g.map ThV.th) k := ⟨_, rfl⟩
      have hst : effQ (g.map ThV.th) k (n - 0) 0 pri = R := by rw [hR, effV, HGL.out, priG_at hgi]; rfl
      have HRR := Lib.hid hR
      have HST := Lib.hid hst
      have HO2 := Lib.hid (ownsI_set HO.out k pri)
      clear ht hgi HD hx hR hst
      go_wp2_with (first | go_region)
      go_loopw [5] (fun i wi => ∃ (m : Nat) (v : Int), m ≤ n ∧ i = .int .i64 m ∧ effQ (g.map ThV.th) k (n - m) m v = R ∧ wi.ownsRow w.heap.size 3 1 (.slice (some ⟨w.heap.size, 0, none⟩) n n) n (((effPart (g.map ThV.th) n k).set k v).flatMap enc1) ∧ w.heap.size < wi.heap.size ∧ Below w.heap.size w wi) (fun i _ => n - (intOf i).toNat)
      case atStart => exact ⟨0, pri, Nat.zero_le _, rfl, HST.out, HO2.out, by simpa using hz, HB.out.setCell (Nat.le_refl _) _⟩
      case round =>
        obtain ⟨m, v, hm, rfl, he, hown, hz2, hB⟩ := hrel
        have HE := Lib.hid he; have HO3 := Lib.hid hown; have HB3 := Lib.hid hB
        clear he hown hB HO2 hcx hfx hqx h1 h2 h3 hb
        by_cases hmn : m < n
        · obtain ⟨⟨pri', ta', tn', tc', waits', holds'⟩, b', off', e', hb', k1, k2, k3, kt, kgi, _⟩ := HR.out.at_ m hmn
          simp at e'
          obtain ⟨rfl, rfl⟩ := e'
          simp only [] at k1 k2 k3
          have hs := effQ_step (f := n - (m + 1)) (k := m) (i := k) (g := g.map ThV.th) (v := v) (R := R) (by rw [show n - (m + 1) + 1 = n - m by omega]; exact HE.out)
          rw [priG_at kgi] at hs
          simp only [] at hs
          have HS := Lib.hid hs
          clear kt kgi hs HE
          cases q : hasB (chainG (g.map ThV.th) m) k
          · rw [q] at HS
            go_wp2_with (first
              | (go_at_call 51; refine (rchain_any _ _ _ g m hmn (by omega) _ (HR.out.ext HB3.out)).mono ?_; rintro e w2 ⟨a2, n2, c2, rfl, ho, hb2⟩; have HC := Lib.hid (ownsI_rd ho); have HB4 := Lib.hid (Below.then HB3.out hb2); have HO4 := Lib.hid (owns_ext HO3.out hb2); have hz4 := hb2.size; clear ho hb2)
              | (go_at_call 61; refine (has_is _ _ _ _ _ _ HC.out q).mono ?_; rintro e w3 ⟨rfl, rfl⟩))
            go_roundw
            case rel => exact ⟨m + 1, v, by omega, by go_num, by simpa using HS.out, HO4.out, by omega, HB4.out⟩
            case measure => simp [intOf]; omega
          · rw [q] at HS
            go_wp2_with (first
              | (go_at_call 51; refine (rchain_any _ _ _ g m hmn (by omega) _ (HR.out.ext HB3.out)).mono ?_; rintro e w2 ⟨a2, n2, c2, rfl, ho, hb2⟩; have HC := Lib.hid (ownsI_rd ho); have HB4 := Lib.hid (Below.then HB3.out hb2); have HO4 := Lib.hid (owns_ext HO3.out hb2); have hz4 := hb2.size; clear ho hb2
                 obtain ⟨hc4, hf4, hz5, hr4⟩ := bfacts HB4.out
                 obtain ⟨y, hy, hcy, hfy, hqy⟩ := ownsI_at HO4.out k hlt
                 obtain rfl : y = v := by simpa [effPart, hlt] using hy.symm
                 have hbz : b < w2.heap.size := by omega
                 clear hy)
              | (go_at_call 61; refine (has_is _ _ _ _ _ _ HC.out q).mono ?_; rintro e w3 ⟨rfl, rfl⟩)
              | go_region)
            go_roundw
            case rel =>
              have HO7 := ownsI_set HO4.out k (max y pri')
              rw [List.set_set] at HO7
              have HB7 := HB4.out.setCell (p := ⟨w.heap.size, k, none⟩) (Nat.le_refl _) (.int .i64 (max y pri'))
              exact ⟨m + 1, max y pri', by omega, by go_num, by simpa using HS.out, HO7, by simp; omega, by first | exact HB7 | exact HB7.drew⟩
            case measure => simp [intOf]; omega
        · have hmn' : m = n := by omega
          have hv : v = R := by rw [← HE.out, hmn', Nat.sub_self]; rfl
          have HO5 := HO3.out
          rw [hv, HRR.out, effPart_set hlt] at HO5
          have HO6 := Lib.hid HO5
          clear HO5 hv
          go_wp2
          go_roundw
          case rel => exact ⟨k + 1, by omega, by go_num, HO6.out, hz2, HB3.out⟩
          case measure => simp [intOf]; omega
    · have hv : k = n := by omega
      subst hv
      go_wp2
      go_ret
      exact ⟨_, _, _, rfl, HO.out, HB.out⟩
theorem validG_pri {g : List Th} (h : validG g = true) : ∀ t ∈ g, 0 ≤ t.pri := by
  simp only [validG, Bool.and_eq_true] at h
  exact fun t ht => (thOk_iff.1 (thsGo_ok _ _ h.1.2 t ht)).1.1
theorem rEffective_any (a : Option Addr) (n c : Nat) (g : List ThV) (w : World) (hG : RdG w a n g) :
    Calls Try.prog 28 #[.slice a n c] w (OutIE w.heap.size w (effR (g.map ThV.th)).1 (effR (g.map ThV.th)).2) := by
  have hgl : (g.map ThV.th).length = n := by simp [hG.length]
  have HC := Lib.hid (rvalid_any a n c g w hG)
  have hl8 := fun h => validG_len (g := g.map ThV.th) h
  have heq := fun h => effL_eq (validG_pri (g := g.map ThV.th) h)
  rw [hgl] at hl8 heq
  have HR := Lib.hid hG; clear hG
  unfold effR
  generalize validG (g.map ThV.th) = V at *
  cases V
  · go_enter Try.func28, Try.ntmps28
    go_wp2_with (go_at_call 23; refine (HC.out).mono ?_; rintro e w1 ⟨rfl, hb1⟩; obtain ⟨hc1, hf1, hz1, hr1⟩ := bfacts hb1; (try simp only [World.size_alloc, World.size_setCell, World.size_drew, World.size_drewN] at hz1 hr1); (try have hw0 : w.heap.size < w1.heap.size := by omega); (try have hw1 : w.heap.size + 1 < w1.heap.size := by omega); (try have hw2 : w.heap.size + 1 + 1 < w1.heap.size := by omega))
    go_ret2
    exact .none (by (repeat' (first | (with_reducible exact Below.refl _ _) | (with_reducible assumption) | (with_reducible refine Below.alloc ?_ ?_ _) | (with_reducible refine Below.drew ?_) | (with_reducible refine Below.draws ?_ _) | (with_reducible refine Below.setCell ?_ ?_ _) | (refine Below.then ?_ (by with_reducible assumption)) | go_size)))
  · rw [if_pos rfl, heq rfl]
    have hn8 := hl8 rfl
    clear hgl hl8 heq
    go_enter Try.func28, Try.ntmps28
    go_wp2_with (first | (go_at_call 23; refine (HC.out).mono ?_; rintro e w1 ⟨rfl, hb1⟩; obtain ⟨hc1, hf1, hz1, hr1⟩ := bfacts hb1; (try simp only [World.size_alloc, World.size_setCell, World.size_drew, World.size_drewN] at hz1 hr1); (try have hw0 : w.heap.size < w1.heap.size := by omega); (try have hw1 : w.heap.size + 1 < w1.heap.size := by omega); (try have hw2 : w.heap.size + 1 + 1 < w1.heap.size := by omega)) | (go_at_call 63; refine (reffective_any _ _ _ g (by omega) _ (HR.out.ext hb1)).mono ?_; rintro e w2 ⟨a2, n2, c2, rfl, ho, hb2⟩; have HO := Lib.hid ho; have HB2 := Lib.hid hb2; clear ho hb2))
    go_ret2
    exact ⟨a2, n2, c2, rfl, owns_mono HO.out hb1.size, Below.then hb1 HB2.out⟩
end Go.Proofs.Ytmdjbnicjohkjaa
