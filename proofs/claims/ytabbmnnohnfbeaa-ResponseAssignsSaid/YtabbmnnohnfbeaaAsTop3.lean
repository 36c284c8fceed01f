/- Assign of the reference. The conditions: the tasks read as named. -/
import Derived.Test.YtabbmnnohnfbeaaAsTop2
namespace Go.Proofs.Ytabbmnnohnfbeaa
open Go.RowKit
set_option linter.unusedSimpArgs false
set_option linter.unusedVariables false
theorem freeL_ok {n : Nat} {placed : List Int} (hn : placed.Nodup) (hr : ∀ x ∈ placed, 0 ≤ x ∧ x < n) : FreeOk n (freeL n placed) placed := by
  refine ⟨(List.perm_ext_iff_of_nodup ?_ (idxs_nodup n)).2 (fun x => ?_)⟩
  · refine List.nodup_append.2 ⟨(idxs_nodup n).filter _, hn, fun a ha b hb => ?_⟩
    rintro rfl
    unfold freeL at ha
    rw [List.mem_filter] at ha
    have := hasI_iff.2 hb
    simp [this] at ha
  · rw [List.mem_append]
    unfold freeL
    rw [List.mem_filter, idxs_mem]
    constructor
    · rintro (h | h)
      · exact h.1
      · exact hr x h
    · intro h
      cases hh : hasI placed x
      · left; exact ⟨h, by rfl⟩
      · right; exact hasI_iff.1 hh
theorem freeL_step {n : Nat} {placed : List Int} {k : Int} : (freeL n placed).filter (fun x => !(x == k)) = freeL n (k :: placed) := by
  unfold freeL
  rw [List.filter_filter]
  congr 1
  funext x
  rw [hasI_cons]
  cases h : x == k
  · have : (k == x) = false := by rw [beq_eq_false_iff_ne] at h ⊢; exact fun e => h e.symm
    simp [this]
  · have : (k == x) = true := by rw [beq_iff_eq] at h ⊢; exact h.symm
    simp [this]
theorem tried_is {n k : Nat} {a : Option Addr} {m c : Nat} {placed od : List Int} {w : World} (hn : n ≤ 5) (hm : m ≤ 5) (hR : Rd w a m 1 (placed.map enc1)) (hN : m = 0 → (a = none ∧ c = 0) ∨ ∃ ad, a = some ad) (h : tryO (freeL n placed) k placed = od) :
    Calls Try.prog 103 #[.int .i64 n, .int .i64 k, .slice a m c] w (OutRd w od) := by subst h; exact tried_any n k a m c placed w hn hm hR hN
def freeD (n i : Nat) (placed : List Int) : List Int := ((idxs n).drop i).filter (fun x => !(hasI placed x))
theorem freeD_step {n i : Nat} {placed : List Int} (h : i < n) : freeD n i placed = if hasI placed i = true then freeD n (i + 1) placed else (i : Int) :: freeD n (i + 1) placed := by
  unfold freeD
  rw [idxs_drop h, List.filter_cons]
  cases hasI placed i <;> rfl
set_option maxRecDepth 100000 in
set_option maxHeartbeats 8000000 in
theorem rAssign_any (a : Option Addr) (n c : Nat) (F S : Int) (L : List Ta) (w : World) (hL : RdL w a n L) (hN : NilOk a n c) :
    Calls Try.prog 51 #[.slice a n c, .agg #[.int .i64 F, .int .i64 S]] w (OutIE w.heap.size w (asgR L F S).1 (asgR L F S).2) := by
  have hll := hL.length
  have HR := Lib.hid hL
  have HNN := Lib.hid hN
  have hE := E1
  have hin : inB 0 0 (1 - 1) = true := by decide
  cases hok : okB L F S
  · have HOK : Hid ((okB L F S && inB 0 0 (1 - 1)) = false) := Lib.hid (by rw [hok]; rfl)
    have hR : asgR L F S = ([], 1) := by unfold asgR; rw [hok]; rfl
    rw [hR]
    clear hL hok hll hN hR
    go_enter Try.func51, Try.ntmps51
    go_wp2_with (go_at_call 55; (with_reducible refine (ready_is (HR.out.ext (by (repeat' (first | (with_reducible exact Below.refl _ _) | (with_reducible assumption) | (with_reducible refine Below.alloc ?_ ?_ _) | (with_reducible refine Below.drew ?_) | (with_reducible refine Below.draws ?_ _) | (with_reducible refine Below.setCell ?_ ?_ _) | (refine Below.then ?_ (by with_reducible assumption)) | go_size)))) HOK.out).mono ?_); rintro e w1 ⟨rfl, hb1⟩; have B1 := Lib.hid (Below.then (show Below w.heap.size w _ by (repeat' (first | (with_reducible exact Below.refl _ _) | (with_reducible assumption) | (with_reducible refine Below.alloc ?_ ?_ _) | (with_reducible refine Below.drew ?_) | (with_reducible refine Below.draws ?_ _) | (with_reducible refine Below.setCell ?_ ?_ _) | (refine Below.then ?_ (by with_reducible assumption)) | go_size))) hb1); clear hb1)
    go_ret2
    exact .none B1.out
  · have HOK : Hid ((okB L F S && inB 0 0 (1 - 1)) = true) := Lib.hid (by rw [hok, hin]; rfl)
    have hvs : validL L = true ∧ supB F S = true := by unfold okB at hok; simpa using hok
    have hV := valid_of hvs.1
    have hn5 : n ≤ 5 := by rw [← hll]; exact hV.r.len
    have HV := Lib.hid hV
    have HS := Lib.hid hvs.2
    have HPN : Hid (∀ t ∈ L, t.pcs.length ≤ 1000) := Lib.hid (fun t ht => by have := (hV.r.pcs t ht).2; omega)
    obtain ⟨xr, er, hxr⟩ : ∃ x e, asgR L F S = (x, e) := ⟨_, _, rfl⟩
    obtain ⟨res, hres⟩ : ∃ r, asgF L F S n (idxs n) [] = r := ⟨_, rfl⟩
    have hf0 : freeL n [] = idxs n := by unfold freeL; rw [List.filter_eq_self]; intro x _; rfl
    have HRES : Hid (asgF L F S (n - 0) (freeL n []) [] = res) := Lib.hid (by rw [hf0]; exact hres)
    have hun : asgEnd L F S res = (xr, er) := by rw [← hxr, asgR_ok hok, hll, hres]
    have HUN := Lib.hid hun
    have HLL := Lib.hid hll
    rw [hxr]
    clear hL hok hll hN hvs hV hxr hres hun hf0 hin
    go_enter Try.func51, Try.ntmps51
    go_wp2_with (go_at_call 55; (with_reducible refine (ready_is (HR.out.ext (by (repeat' (first | (with_reducible exact Below.refl _ _) | (with_reducible assumption) | (with_reducible refine Below.alloc ?_ ?_ _) | (with_reducible refine Below.drew ?_) | (with_reducible refine Below.draws ?_ _) | (with_reducible refine Below.setCell ?_ ?_ _) | (refine Below.then ?_ (by with_reducible assumption)) | go_size)))) HOK.out).mono ?_); rintro e w1 ⟨rfl, hb1⟩; have B1 := Lib.hid (Below.then (show Below w.heap.size w _ by (repeat' (first | (with_reducible exact Below.refl _ _) | (with_reducible assumption) | (with_reducible refine Below.alloc ?_ ?_ _) | (with_reducible refine Below.drew ?_) | (with_reducible refine Below.draws ?_ _) | (with_reducible refine Below.setCell ?_ ?_ _) | (refine Below.then ?_ (by with_reducible assumption)) | go_size))) hb1); have s0 := keep_c hb1 (b := w.heap.size) (o := 0) (v := .int .i64 F) (by simp [go_sem]); have s1 := keep_c hb1 (b := w.heap.size) (o := 1) (v := .int .i64 S) (by simp [go_sem]); clear hb1)
    have HR1 := Lib.hid (HR.out.ext B1.out)
    obtain ⟨sb, hsb⟩ : ∃ x, w.heap.size = x := ⟨_, rfl⟩
    have HSB := Lib.hid hsb
    simp only [hsb] at s0 s1 ⊢
    have HS0 := Lib.hid s0; have HS1 := Lib.hid s1
    have hls := World.block_lt_of_cell? w1 _ s0
    simp only [] at hls
    clear s0 s1 hsb
    go_loopw [7] (fun v wr => ∃ (m : Nat) (placed : List Int) (a' : Option Addr) (c' : Nat), v = .slice a' m c' ∧ m ≤ n ∧ wr.ownsRow w1.heap.size 3 1 (.slice a' m c') m (placed.flatMap enc1) ∧ placed.Nodup ∧ (∀ x ∈ placed, 0 ≤ x ∧ x < n) ∧ asgF L F S (n - m) (freeL n placed) placed = res ∧ Below w1.heap.size w1 wr) (fun v _ => n - lenOf v)
    case atStart => exact ⟨0, [], none, 0, rfl, Nat.zero_le _, World.ownsRow_nil _ _ _ _, List.nodup_nil, by simp, HRES.out, Below.refl _ _⟩
    case round =>
      obtain ⟨m, placed, a', c', rfl, hm, hO, hnd, hrg, he, hB⟩ := hrel
      have HO := Lib.hid hO; have HND := Lib.hid hnd; have HRG := Lib.hid hrg; have HE := Lib.hid he; have HB := Lib.hid hB
      have HPR := Lib.hid (ownsI_rd hO); have HPNN := Lib.hid (owns_nil hO)
      have hpl : placed.length = m := (ownsI_rd hO).length
      have HFO := Lib.hid (freeL_ok hnd hrg)
      have s0 := keep_c hB HS0.out; have s1 := keep_c hB HS1.out
      have hz := hB.size
      clear hO hnd hrg he hB HRES
      by_cases hlt : m < n
      · obtain ⟨fk, hfk⟩ : ∃ f, (freeL n placed).find? (fun k => meetB (ordL L (tryO (freeL n placed) k placed)) F S k) = f := ⟨_, rfl⟩
        have HFK := Lib.hid hfk
        have HA : Hid ((freeD n 0 placed).find? (fun k => meetB (ordL L (tryO (freeL n placed) k placed)) F S k) = fk) := Lib.hid hfk
        clear hfk
        go_wp2_with fail
        rename World => W2
        have HW2 := Lib.hid hz
        go_loopw [8, 9] (fun bv iv wr => ∃ (i : Nat) (b : Int), i ≤ n ∧ bv = .int .i64 b ∧ iv = .int .i64 i ∧ ((b = -1 ∧ (freeD n i placed).find? (fun k => meetB (ordL L (tryO (freeL n placed) k placed)) F S k) = fk) ∨ (0 ≤ b ∧ fk = some b)) ∧ Below W2.heap.size W2 wr) (fun _ iv _ => n - (intOf iv).toNat)
        case atStart => exact ⟨0, -1, Nat.zero_le _, rfl, rfl, .inl ⟨rfl, HA.out⟩, Below.refl _ _⟩
        case round =>
          obtain ⟨i, b, hi, rfl, rfl, hbk, hB2⟩ := hrel
          have HBK := Lib.hid hbk; have HB2 := Lib.hid hB2
          have hz2 := hB2.size
          have hw2 := HW2.out
          have t0 := keep_c hB2 s0; have t1 := keep_c hB2 s1
          have HBB := Lib.hid (HB.out.trans (hB2.mono HW2.out))
          clear hbk hB2
          by_cases hb0 : b < 0
          · have hb0' : decide (b < 0) = true := by simpa using hb0
            have hkk : b = -1 ∧ (freeD n i placed).find? (fun k => meetB (ordL L (tryO (freeL n placed) k placed)) F S k) = fk := by
              rcases HBK.out with h | h
              · exact h
              · omega
            obtain ⟨rfl, hfd⟩ := hkk
            by_cases hin : i < n
            · rw [freeD_step hin] at hfd
              obtain ⟨hh, hhe⟩ : ∃ b, hasI placed (i : Int) = b := ⟨_, rfl⟩
              have HH := Lib.hid hhe
              rw [hhe] at hfd
              cases hh
              · simp only [Bool.false_eq_true, if_false] at hfd
                rw [List.find?_cons] at hfd
                have hif : (i : Int) ∈ freeL n placed := by unfold freeL; rw [List.mem_filter]; exact ⟨idxs_mem.2 ⟨by omega, by omega⟩, by rw [hhe]; rfl⟩
                have hord := HFO.out.tryO hif
                obtain ⟨od, hto⟩ : ∃ l, tryO (freeL n placed) (i : Int) placed = l := ⟨_, rfl⟩
                rw [hto] at hord
                have HODL : Hid (od.length = n) := Lib.hid hord.len
                have HRB := Lib.hid (HR1.out.ext HBB.out)
                have HORG : Hid (∀ x ∈ od, 0 ≤ x ∧ x < n) := Lib.hid (fun x hx => hord.mem.1 hx)
                have HVO : Hid (ValidT (ordL L od)) := Lib.hid (valid_of (ordL_valid HV.out (by rw [HLL.out]; exact hord)))
                obtain ⟨mt, hmt⟩ : ∃ b, meetB (ordL L od) F S (i : Int) = b := ⟨_, rfl⟩
                have HMT := Lib.hid hmt
                rw [hto, hmt] at hfd
                have HTO := Lib.hid hto
                have HFD := Lib.hid hfd
                clear hfd hhe hif hord hto hmt
                go_wp2_with fail
                go_region_held3 (fun w' => w'.cell? ⟨sb, 0, none⟩ = some (.int .i64 F) ∧ w'.cell? ⟨sb, 1, none⟩ = some (.int .i64 S))
                  (first | go_keep)
                  (first
                    | (go_at_call 101; (with_reducible refine (has_is ((HPR.out.ext HB2.out).ext (by (repeat' (first | (with_reducible exact Below.refl _ _) | (with_reducible assumption) | (with_reducible refine Below.alloc ?_ ?_ _) | (with_reducible refine Below.drew ?_) | (with_reducible refine Below.draws ?_ _) | (with_reducible refine Below.setCell ?_ ?_ _) | (refine Below.then ?_ (by with_reducible assumption)) | go_size)))) HH.out).mono ?_); rintro e w5 ⟨rfl, rfl⟩)
                    | (go_at_call 103; (with_reducible refine (tried_is hn5 (by omega) ((HPR.out.ext HB2.out).ext (by (repeat' (first | (with_reducible exact Below.refl _ _) | (with_reducible assumption) | (with_reducible refine Below.alloc ?_ ?_ _) | (with_reducible refine Below.drew ?_) | (with_reducible refine Below.draws ?_ _) | (with_reducible refine Below.setCell ?_ ?_ _) | (refine Below.then ?_ (by with_reducible assumption)) | go_size)))) HPNN.out HTO.out).mono ?_); rintro e w6 ⟨a6, l6, c6, rfl, hr6, hb6⟩; have hl6 : n = l6 := HODL.out.symm.trans hr6.length; subst hl6; have HR6 := Lib.hid hr6; have B6 := Lib.hid (Below.then ((Below.refl wr.heap.size wr).drew) hb6); have x0 := keep_c B6.out t0; have x1 := keep_c B6.out t1; clear hr6 hb6)
                    | (go_at_call 102; (with_reducible refine (rordered_M _ _ _ L _ _ _ od hn5 HPN.out _ (HRB.out.ext B6.out) HNN.out HR6.out (by omega) HORG.out).mono ?_); rintro e w7 ⟨a7, c7, g7, rfl, hm7, hg7, hb7⟩; have HM7 : Hid (RdL w7 a7 n (ordL L od)) := Lib.hid (by rw [← hg7]; exact hm7.rdL); have B7 := Lib.hid (Below.then B6.out hb7); have y0 := keep_c hb7 x0; have y1 := keep_c hb7 x1; clear hm7 hg7 hb7)
                    | (go_at_call 81; (with_reducible refine (rmeets_is HM7.out HVO.out HS.out hin HMT.out).mono ?_); rintro e w8 ⟨rfl, hb8⟩; have B8 := Lib.hid (Below.then B7.out hb8); have u0 := keep_c hb8 y0; have u1 := keep_c hb8 y1; clear hb8))
                cases mt
                · go_wp2_with fail
                  go_roundw
                  case rel => exact ⟨i + 1, -1, by omega, rfl, by go_num, .inl ⟨rfl, HFD.out⟩, Below.then HB2.out B8.out⟩
                  case measure => simp [intOf]; omega
                · go_wp2_with fail
                  go_roundw
                  case rel => exact ⟨i + 1, i, by omega, rfl, by go_num, .inr ⟨by omega, HFD.out.symm⟩, Below.then HB2.out B8.out⟩
                  case measure => simp [intOf]; omega
              · simp only [if_true] at hfd
                have HFD := Lib.hid hfd
                clear hfd hhe
                go_wp2_with (refine wp_region_later_lit (by kernel_rfl) (by kernel_rfl) ?_; (repeat (go_big_quiet_step ((go_at_call 101; exact later_same (has_is (later_rd (HPR.out.ext HB2.out) (by (repeat' (first | (with_reducible exact Below.refl _ _) | (with_reducible assumption) | (with_reducible refine Below.alloc ?_ ?_ _) | (with_reducible refine Below.drew ?_) | (with_reducible refine Below.draws ?_ _) | (with_reducible refine Below.setCell ?_ ?_ _) | (refine Below.then ?_ (by with_reducible assumption)) | go_size)))) HH.out))))); refine wpQuiet_nil ?_; intro w5 hb5)
                go_roundw
                case rel => exact ⟨i + 1, -1, by omega, rfl, by go_num, .inl ⟨rfl, HFD.out⟩, Below.then HB2.out hb5⟩
                case measure => simp [intOf]; omega
            · have hin' : decide ((i : Int) < (n : Int)) = false := by simp; omega
              have hin'' : decide (i < n) = false := by simp; omega
              rw [show freeD n i placed = [] by unfold freeD; rw [List.drop_of_length_le (by rw [idxs_len]; omega)]; rfl] at hfd
              have hE2 := HE.out
              rw [show n - m = (n - m - 1) + 1 by omega, asgF, HFK.out, ← hfd] at hE2
              simp only [List.find?_nil] at hE2
              subst hE2
              have hUN := HUN.out
              simp [asgEnd] at hUN
              obtain ⟨rfl, rfl⟩ := hUN
              clear hfd
              go_wp2_with fail
              go_ret2
              exact .none (by rw [← HSB.out]; exact Below.then B1.out HBB.out)
          · have hb0' : decide (b < 0) = false := by simpa using hb0
            have hkk : 0 ≤ b ∧ fk = some b := by
              rcases HBK.out with h | h
              · omega
              · exact h
            obtain ⟨hb1, hfk⟩ := hkk
            have hfs := HFK.out.trans hfk
            have hbm := List.mem_of_find?_eq_some hfs
            have hE2 := HE.out
            rw [show n - m = (n - m - 1) + 1 by omega, asgF, hfs] at hE2
            simp only [freeL_step] at hE2
            have HE2 : Hid (asgF L F S (n - (m + 1)) (freeL n (b :: placed)) (b :: placed) = res) := Lib.hid (by rw [show n - (m + 1) = n - m - 1 by omega]; exact hE2)
            have hst := HFO.out.step hbm
            have HND2 : Hid ((b :: placed).Nodup) := Lib.hid hst.nodup.2.1
            have HRG2 : Hid (∀ x ∈ b :: placed, 0 ≤ x ∧ x < n) := Lib.hid (fun x hx => idxs_mem.1 (hst.perm.mem_iff.1 (List.mem_append_right _ hx)))
            clear hE2 hst hfs hfk hbm
            have hm1 : m + 1 = 1 + m := by omega
            by_cases hin : i < n
            · go_wp2_with (at_builtin; refine wpList_pushAll (B := wr.heap.size) rfl _ _ _ rfl hE enc1_len enc1_one rfl (owns_one wr (.int .i64 b) 3) rfl ((HPR.out.ext HB2.out).ext (by (repeat' (first | (with_reducible exact Below.refl _ _) | (with_reducible assumption) | (with_reducible refine Below.alloc ?_ ?_ _) | (with_reducible refine Below.drew ?_) | (with_reducible refine Below.draws ?_ _) | (with_reducible refine Below.setCell ?_ ?_ _) | (refine Below.then ?_ (by with_reducible assumption)) | go_size)))) HPNN.out (by omega) (by decide) (by simp) ?_; intro v9 w9 hown9 hv9 hb9; obtain ⟨a9, c9, rfl⟩ := hv9; have HO9 := Lib.hid hown9; have B9 := Lib.hid (((Below.refl wr.heap.size wr).alloc (Nat.le_refl _) _).trans hb9); clear hown9 hb9)
              go_roundw
              case rel => exact ⟨1 + m, b :: placed, a9, c9, rfl, by omega, owns_mono HO9.out HBB.out.size, HND2.out, HRG2.out, by rw [← hm1]; exact HE2.out, HBB.out.trans (B9.out.mono HBB.out.size)⟩
              case measure => simp only [lenOf]; omega
            · have hin' : decide ((i : Int) < (n : Int)) = false := by simp; omega
              have hin'' : decide (i < n) = false := by simp; omega
              go_wp2_with (at_builtin; refine wpList_pushAll (B := wr.heap.size) rfl _ _ _ rfl hE enc1_len enc1_one rfl (owns_one wr (.int .i64 b) 3) rfl ((HPR.out.ext HB2.out).ext (by (repeat' (first | (with_reducible exact Below.refl _ _) | (with_reducible assumption) | (with_reducible refine Below.alloc ?_ ?_ _) | (with_reducible refine Below.drew ?_) | (with_reducible refine Below.draws ?_ _) | (with_reducible refine Below.setCell ?_ ?_ _) | (refine Below.then ?_ (by with_reducible assumption)) | go_size)))) HPNN.out (by omega) (by decide) (by simp) ?_; intro v9 w9 hown9 hv9 hb9; obtain ⟨a9, c9, rfl⟩ := hv9; have HO9 := Lib.hid hown9; have B9 := Lib.hid (((Below.refl wr.heap.size wr).alloc (Nat.le_refl _) _).trans hb9); clear hown9 hb9)
              go_roundw
              case rel => exact ⟨1 + m, b :: placed, a9, c9, rfl, by omega, owns_mono HO9.out HBB.out.size, HND2.out, HRG2.out, by rw [← hm1]; exact HE2.out, HBB.out.trans (B9.out.mono HBB.out.size)⟩
              case measure => simp only [lenOf]; omega
      · obtain rfl : m = n := by omega
        have hE2 := HE.out
        rw [Nat.sub_self, asgF] at hE2
        subst hE2
        have hfl : freeL m placed = [] := by
          have := HFO.out.perm.length_eq
          simp [idxs_len] at this
          exact List.length_eq_zero_iff.1 (by omega)
        have hord : IsOrd L.length placed := ⟨by have := HFO.out.perm; rw [hfl, List.nil_append] at this; rw [HLL.out]; exact this⟩
        have HRG' : Hid (∀ x ∈ placed, 0 ≤ x ∧ x < m) := HRG
        have HVO : Hid (ValidT (ordL L placed)) := Lib.hid (valid_of (ordL_valid HV.out hord))
        obtain ⟨ac, hac⟩ : ∃ b, accB (ordL L placed) F S = b := ⟨_, rfl⟩
        have HAC' := Lib.hid hac
        have hUN := HUN.out
        rw [asgEnd, hac] at hUN
        clear hord hac hfl
        cases ac
        · simp at hUN
          obtain ⟨rfl, rfl⟩ := hUN
          go_wp2_with (first
            | (go_at_call 102; (with_reducible refine (rordered_M _ _ _ L _ _ _ placed hn5 HPN.out _ (HR1.out.ext HB.out) HNN.out HPR.out (by omega) HRG'.out).mono ?_); rintro e w5 ⟨a5, c5, g5, rfl, hm5, hg5, hb5⟩; have HM5 : Hid (RdL w5 a5 m (ordL L placed)) := Lib.hid (by rw [← hg5]; exact hm5.rdL); have B5 := Lib.hid hb5; have t1 := keep_c hb5 s0; have t2 := keep_c hb5 s1; clear hm5 hg5 hb5)
            | (go_at_call 68; (with_reducible refine (racc_is HM5.out HVO.out HS.out HAC'.out).mono ?_); rintro e w6 ⟨rfl, hb6⟩; have B6 := Lib.hid hb6; clear hb6))
          go_ret2
          exact .none (Below.then (Below.then (Below.then B1.out HB.out) B5.out) B6.out)
        · simp at hUN
          obtain ⟨hux, rfl⟩ := hUN
          have HUX := Lib.hid hux
          clear hux
          go_wp2_with (first
            | (go_at_call 102; (with_reducible refine (rordered_M _ _ _ L _ _ _ placed hn5 HPN.out _ (HR1.out.ext HB.out) HNN.out HPR.out (by omega) HRG'.out).mono ?_); rintro e w5 ⟨a5, c5, g5, rfl, hm5, hg5, hb5⟩; have HM5 : Hid (RdL w5 a5 m (ordL L placed)) := Lib.hid (by rw [← hg5]; exact hm5.rdL); have B5 := Lib.hid hb5; have t1 := keep_c hb5 s0; have t2 := keep_c hb5 s1; clear hm5 hg5 hb5)
            | (go_at_call 68; (with_reducible refine (racc_is HM5.out HVO.out HS.out HAC'.out).mono ?_); rintro e w6 ⟨rfl, hb6⟩; have B6 := Lib.hid hb6; clear hb6))
          have HM6 := Lib.hid (HM5.out.ext B6.out)
          have HBW6 := Lib.hid (Below.then (Below.then (Below.then B1.out HB.out) B5.out) B6.out)
          go_loopw [11, 12] (fun v i wr => ∃ (j : Nat) (a' : Option Addr) (c' : Nat), j ≤ m ∧ v = .slice a' j c' ∧ i = .int .i64 j ∧ wr.ownsRow w6.heap.size 3 1 (.slice a' j c') j ((((ordL L placed).take j).map Ta.pri).flatMap enc1) ∧ Below w6.heap.size w6 wr) (fun _ i _ => m - (intOf i).toNat)
          case atStart => exact ⟨0, none, 0, Nat.zero_le _, rfl, rfl, World.ownsRow_nil _ _ _ _, Below.refl _ _⟩
          case round =>
            obtain ⟨j, a', c', hj, rfl, rfl, hO9, hB9⟩ := hrel
            have HO9 := Lib.hid hO9; have HB9 := Lib.hid hB9
            have hz9 := hB9.size
            clear hO9 hB9
            by_cases hjk : j < m
            · obtain ⟨t, b8, off, pa, pn, pc, rfl, hb8, c0, c1, c2', c3', c4, c5, hp, _, hg, HD⟩ := (HM6.out.ext HB9.out).at_ j hjk
              have HTK := Lib.hid (take_of_drop HD.out)
              clear hp hg HD
              go_wp2_with (at_builtin; refine wpList_push (B := w6.heap.size) rfl _ _ _ rfl hE rfl HO9.out rfl rfl (by intro u hu; simp at hu; subst hu; rfl) (by omega) (by decide) (by omega) ?_; intro a10 c10 w10 hown10 hb10; have HO11 := Lib.hid hown10; have B10 := Lib.hid hb10; clear hown10 hb10)
              go_roundw
              case rel => exact ⟨j + 1, a10, c10, by omega, rfl, by go_num, by rw [HTK.out, List.map_append, List.flatMap_append]; exact HO11.out, HB9.out.trans B10.out⟩
              case measure => simp [intOf]; omega
            · obtain rfl : j = m := by omega
              have hO := HO9.out
              rw [List.take_of_length_le (by rw [ordL_len, HLL.out]; exact Nat.le_refl _), HUX.out] at hO
              have HO12 := Lib.hid hO
              clear hO
              go_wp2_with fail
              go_ret2
              exact ⟨_, _, _, rfl, owns_mono HO12.out HBW6.out.size, Below.then HBW6.out HB9.out⟩
end Go.Proofs.Ytabbmnnohnfbeaa
