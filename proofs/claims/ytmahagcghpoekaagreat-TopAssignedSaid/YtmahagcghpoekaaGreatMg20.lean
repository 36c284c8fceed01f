/- Assign of the program. The conditions: the tasks read as named. What Assign finds, for who uses it. The conditions: the tasks read as named. The contract of eventsB: events that a pattern allows. The conditions: the list reads as named, the pattern is one. The contracts of readyB and runB. The conditions: the tasks and the lists read as named; the tasks are valid. -/
import Derived.Test.YtmahagcghpoekaaGreatMg19
import Derived.Test.YtmahagcghpoekaaGreatMg14
import Derived.Test.YtmahagcghpoekaaGreatMg18
import Derived.Test.YtmahagcghpoekaaGreatMg1
import Derived.Test.YtmahagcghpoekaaGreatMg4
import Derived.Test.YtmahagcghpoekaaGreatMg15
import Derived.Deep.RegionHeld3
import Derived.BigRegion
import Derived.Deep.Cut
import Derived.Test.YtmahagcghpoekaaGreatMg9
import Derived.Test.YtmahagcghpoekaaGreatMg8
import Derived.Test.YtmahagcghpoekaaGreatMg11
import Derived.Test.YtmahagcghpoekaaGreatMg5
namespace Go.Proofs.YtmahagcghpoekaaGreat
open Go.RowKit
set_option linter.unusedSimpArgs false
set_option linter.unusedVariables false
def asgEnd (L : List Ta) (F S : Int) : Option (List Int) → List Int × Int
  | none => ([], 3)
  | some p => if accB (ordL L p) F S then ((ordL L p).map Ta.pri, 0) else ([], 3)
theorem asgR_ok {L : List Ta} {F S : Int} (h : okB L F S = true) : asgR L F S = asgEnd L F S (asgF L F S L.length (idxs L.length) []) := by
  unfold asgR
  rw [if_pos h]
  cases asgF L F S L.length (idxs L.length) [] <;> rfl
def cellLen (w : World) (b : Nat) : Nat := lenOf ((w.cell? ⟨b, 0, none⟩).getD (.bool false))
theorem FP.len {w : World} {fb free placed a2 n2 c2 a3 n3 c3} (h : FP w fb free placed a2 n2 c2 a3 n3 c3) : cellLen w fb = n2 := by unfold cellLen; rw [h.f0]; rfl
theorem delete_is {B b n c i : Nat} {xs : List Int} {x : Int} {w : World} (hn : n ≤ 1000) (hO : w.ownsRow B 3 1 (.slice (some ⟨b, 0, none⟩) n c) n (xs.flatMap enc1)) (hi : i < n) (hx : x = ((i + 1 : Nat) : Int)) :
    Calls Tryz.prog 41 #[.slice (some ⟨b, 0, none⟩) n c, .int .i64 i, .int .i64 x] w (DelP B w b (n - 1) c (cutL xs i)) := by subst hx; exact delete_any B b n c i xs w hn hO hi
theorem ai_is {g : Nat} {lb : Array Value} {p : Int → Bool} {a : Option Addr} {n c : Nat} {xs : List Int} {R : Int} {w : World} (hR : Rd w a n 1 (xs.map enc1)) (hf : PredIn g lb valI p xs w) (h : idxGo p 0 xs = R) :
    Calls Tryz.prog 33 #[.slice a n c, .func (.func g) #[] lb] w fun e w' => e = .returned (.int .i64 R) ∧ Below w.heap.size w w' := by subst h; exact ai_idx g lb p a n c xs w hR hf
set_option maxRecDepth 100000 in
set_option maxHeartbeats 8000000 in
theorem Assign_any (a : Option Addr) (n c : Nat) (F S : Int) (L : List Ta) (w : World) (hL : RdL w a n L) (hN : NilOk a n c) :
    Calls Tryz.prog 14 #[.slice a n c, .agg #[.int .i64 F, .int .i64 S]] w (OutIE w.heap.size w (asgR L F S).1 (asgR L F S).2) := by
  have hll := hL.length
  have HR := Lib.hid hL
  have HNN := Lib.hid hN
  have hE := E1
  cases hok : okB L F S
  · have HOK := Lib.hid hok
    have hR : asgR L F S = ([], 1) := by unfold asgR; rw [hok]; rfl
    rw [hR]
    clear hL hok hll hN hR
    go_enter Tryz.func14, Tryz.ntmps14
    go_wp2_with (go_at_call 23; (with_reducible refine (right25_is (HR.out.ext (by (repeat' (first | (with_reducible exact Below.refl _ _) | (with_reducible assumption) | (with_reducible refine Below.alloc ?_ ?_ _) | (with_reducible refine Below.drew ?_) | (with_reducible refine Below.draws ?_ _) | (with_reducible refine Below.setCell ?_ ?_ _) | (refine Below.then ?_ (by with_reducible assumption)) | go_size)))) HOK.out).mono ?_); rintro e w1 ⟨rfl, hb1⟩; have B1 := Lib.hid (Below.then (show Below w.heap.size w _ by (repeat' (first | (with_reducible exact Below.refl _ _) | (with_reducible assumption) | (with_reducible refine Below.alloc ?_ ?_ _) | (with_reducible refine Below.drew ?_) | (with_reducible refine Below.draws ?_ _) | (with_reducible refine Below.setCell ?_ ?_ _) | (refine Below.then ?_ (by with_reducible assumption)) | go_size))) hb1); clear hb1)
    go_ret2
    exact .none B1.out
  · have HOK := Lib.hid hok
    have hvs : validL L = true ∧ supB F S = true := by unfold okB at hok; simpa using hok
    have hV := valid_of hvs.1
    have hn5 : n ≤ 5 := by rw [← hll]; exact hV.r.len
    have HV := Lib.hid hV
    have HS := Lib.hid hvs.2
    obtain ⟨xr, er, hxr⟩ : ∃ x e, asgR L F S = (x, e) := ⟨_, _, rfl⟩
    obtain ⟨res, hres⟩ : ∃ r, asgF L F S n (idxs n) [] = r := ⟨_, rfl⟩
    have HRES := Lib.hid hres
    have hun : asgEnd L F S res = (xr, er) := by rw [← hxr, asgR_ok hok, hll, hres]
    have HUN := Lib.hid hun
    have HLL := Lib.hid hll
    rw [hxr]
    clear hL hok hll hN hvs hV hxr hres hun
    go_enter Tryz.func14, Tryz.ntmps14
    go_upto_region 3 with (go_at_call 23; (with_reducible refine (right25_is (HR.out.ext (by (repeat' (first | (with_reducible exact Below.refl _ _) | (with_reducible assumption) | (with_reducible refine Below.alloc ?_ ?_ _) | (with_reducible refine Below.drew ?_) | (with_reducible refine Below.draws ?_ _) | (with_reducible refine Below.setCell ?_ ?_ _) | (refine Below.then ?_ (by with_reducible assumption)) | go_size)))) HOK.out).mono ?_); rintro e w1 ⟨rfl, hb1⟩; have B1 := Lib.hid (Below.then (show Below w.heap.size w _ by (repeat' (first | (with_reducible exact Below.refl _ _) | (with_reducible assumption) | (with_reducible refine Below.alloc ?_ ?_ _) | (with_reducible refine Below.drew ?_) | (with_reducible refine Below.draws ?_ _) | (with_reducible refine Below.setCell ?_ ?_ _) | (refine Below.then ?_ (by with_reducible assumption)) | go_size))) hb1); have l0 := keep_cA hb1 (b := w.heap.size) (o := 0) (v := .slice a n c) (by simp [go_sem]); have s0 := keep_cA hb1 (b := w.heap.size + 1) (o := 0) (v := .int .i64 F) (by simp [go_sem]); have s1 := keep_cA hb1 (b := w.heap.size + 1) (o := 1) (v := .int .i64 S) (by simp [go_sem]); clear hb1)
    have HR1 := Lib.hid (HR.out.ext B1.out)
    obtain ⟨lb, hlb⟩ : ∃ x, w.heap.size = x := ⟨_, rfl⟩
    obtain ⟨sb, hsb⟩ : ∃ x, lb + 1 = x := ⟨_, rfl⟩
    simp only [hlb, hsb] at l0 s0 s1 ⊢
    have HL0 := Lib.hid l0; have HS0 := Lib.hid s0; have HS1 := Lib.hid s1
    have hll1 := World.block_lt_of_cell? w1 _ l0
    have hls1 := World.block_lt_of_cell? w1 _ s0
    simp only [] at hll1 hls1
    have hlt1 : lb ≤ w1.heap.size := by omega
    have hlt2 : lb < w1.heap.size + 1 := by omega
    have HLB := Lib.hid hlb
    clear hlb hsb
    go_wp2_with fail
    obtain ⟨fb, hfb⟩ : ∃ x, w1.heap.size = x := ⟨_, rfl⟩
    obtain ⟨pb, hpb⟩ : ∃ x, fb + 1 = x := ⟨_, rfl⟩
    have hst : FP ((w1.alloc (.cells #[.slice none 0 0] 26)).alloc (.cells #[.slice none 0 0] 26)) fb [] [] none 0 0 none 0 0 := by
      subst hfb
      exact ⟨by simp, by simp [go_sem], by simp [go_sem], by simp [go_sem], by simp [go_sem], World.ownsRow_nil _ _ _ _, World.ownsRow_nil _ _ _ _, fun x hx => by simp [Value.ownBlock] at hx⟩
    have HST := Lib.hid hst
    have HFB := Lib.hid hfb
    simp only [hfb, hpb] at hll1 hls1 ⊢
    clear hst hlt1 hlt2
    go_loopw [20] (fun i wr => ∃ (k : Nat) (a2 : Option Addr) (c2 : Nat), k ≤ n ∧ i = .int .i64 k ∧ FP wr fb ((idxs n).take k) [] a2 k c2 none 0 0 ∧ Below fb w1 wr) (fun i _ => n - (intOf i).toNat)
    case atStart => exact ⟨0, none, 0, Nat.zero_le _, rfl, HST.out, by rw [← HFB.out]; (repeat' (first | (with_reducible exact Below.refl _ _) | (with_reducible assumption) | (with_reducible refine Below.alloc ?_ ?_ _) | (with_reducible refine Below.drew ?_) | (with_reducible refine Below.draws ?_ _) | (with_reducible refine Below.setCell ?_ ?_ _) | (refine Below.then ?_ (by with_reducible assumption)) | go_size))⟩
    case round =>
      obtain ⟨k, a2, c2, hk, rfl, hFP, hB⟩ := hrel
      have HF := Lib.hid hFP; have HB := Lib.hid hB
      have hlf := hFP.lt
      have f0 := hFP.f0; have ff := hFP.ff
      clear hFP hB HST
      by_cases hlt : k < n
      · go_wp2_with (at_builtin; refine wpList_pushM (N := wr.heap.size) rfl rfl _ _ _ rfl hE rfl HF.out.fo rfl rfl (by intro u hu; simp at hu; subst hu; rfl) (by omega) (by decide) (by omega) ?_; intro a6 c6 w6 hown6 hg6; have hFX := (HF.out.ext (Below.alloc (Below.refl _ _) (Nat.le_refl _) (.cells #[.int .i64 k] 3))).free' (free' := (idxs n).take (k + 1)) (by rw [List.take_add_one, idxs_get hlt, List.flatMap_append]; exact hown6) hg6 (fun x _ e => by simp [Value.ownBlock] at e); have HFX := Lib.hid hFX; have hB6 : Below (fb + 2) wr w6 := ((Below.refl (fb + 2) wr).alloc (by omega) _).grown hg6 (by simp; omega) (fun j hj => (own_low HF.out.fo j hj).1); have HB6 := Lib.hid hB6; have g0 := (hB6.cell (p := ⟨fb, 0, none⟩) (by simp only []; omega)).trans f0; have gf := (hB6.frozen (p := ⟨fb, 0, none⟩) (by simp only []; omega)).trans ff; clear hown6 hg6 hFX hB6)
        go_roundw
        case rel => exact ⟨k + 1, a6, c6, by omega, by go_num, HFX.out, (HB.out.trans (HB6.out.mono (by omega))).setCell (Nat.le_refl _) _⟩
        case measure => simp [intOf]; omega
      · obtain rfl : k = n := by omega
        have HF0 : Hid (FP wr fb (idxs k) [] a2 k c2 none 0 0) := Lib.hid (by
          have := HF.out
          rw [List.take_of_length_le (by rw [idxs_len]; exact Nat.le_refl _)] at this
          exact this)
        clear f0 ff hlf HF
        go_wp2_with fail
        go_loopw [] (fun wr => ∃ (free placed : List Int) (a2 : Option Addr) (n2 c2 : Nat) (a3 : Option Addr) (n3 c3 : Nat), FP wr fb free placed a2 n2 c2 a3 n3 c3 ∧ FreeOk k free placed ∧ asgF L F S free.length free placed = res ∧ Below fb w1 wr) (fun wr => cellLen wr fb)
        case atStart => exact ⟨idxs k, [], a2, k, c2, none, 0, 0, HF0.out, FreeOk.start k, by rw [idxs_len]; exact HRES.out, HB.out⟩
        case round =>
          obtain ⟨free, placed, a2, n2, c2, a3, n3, c3, hFP, hFO, he, hB2⟩ := hrel
          have HF := Lib.hid hFP; have HO := Lib.hid hFO; have HE := Lib.hid he; have HB2 := Lib.hid hB2
          have hB2' : Below w1.heap.size w1 wr := by rw [HFB.out]; exact hB2
          have l1 := keep_cA hB2' HL0.out; have s1 := keep_cA hB2' HS0.out; have s2 := keep_cA hB2' HS1.out
          have HBW := Lib.hid (Below.then B1.out hB2')
          have hln : free.length = n2 := (ownsI_rd hFP.fo).length
          have hln3 : placed.length = n3 := (ownsI_rd hFP.po).length
          have htot : n2 + n3 = k := by have := hFO.perm.length_eq; simp [idxs_len] at this; omega
          have hAC : AsC L F S a k c fb lb (fb + 1) sb free placed wr := ⟨l1, s1, s2, ⟨a2, n2, c2, hFP.f0, ownsI_rd hFP.fo, owns_nil hFP.fo⟩, ⟨a3, n3, c3, hFP.p0, ownsI_rd hFP.po, owns_nil hFP.po⟩, HR1.out.ext hB2'⟩
          have HAC := Lib.hid hAC
          have hlt := hFP.lt
          have f0 := hFP.f0
          have hLEN := hFP.len
          rw [hpb] at hAC
          have HPI := Lib.hid (asg_pred HV.out HS.out hFO HNN.out hAC)
          have HRD := Lib.hid (ownsI_rd hFP.fo)
          have HLEN := Lib.hid hLEN
          clear hFP hFO he hB2 hB2' hAC hLEN HF0
          by_cases h0 : 0 < n2
          · have h0' : decide ((0 : Int) < (n2 : Int)) = true := by simp; omega
            rcases idxGo_find (p := fun k => meetB (ordL L (tryO free k placed)) F S k) free 0 with ⟨hi, hfi⟩ | ⟨i, kx, hi, hgi, hfi⟩
            · have HI := Lib.hid hi
              have hE2 := HE.out
              rw [show free.length = (n2 - 1) + 1 by omega, asgF, hfi] at hE2
              simp only [] at hE2
              subst hE2
              have hUN := HUN.out
              simp [asgEnd] at hUN
              obtain ⟨rfl, rfl⟩ := hUN
              go_wp2_with (go_at_call 33; (with_reducible refine (ai_is HRD.out HPI.out HI.out).mono ?_); rintro e w5 ⟨rfl, hb5⟩; have B5 := Lib.hid hb5; clear hb5)
              go_ret2
              exact .none (Below.then HBW.out B5.out)
            · rw [Nat.zero_add] at hi
              have HI := Lib.hid hi
              have HGI := Lib.hid hgi
              have hin : i < n2 := by rw [← hln]; exact (List.getElem?_eq_some_iff.1 hgi).1
              have hmem := List.mem_of_getElem? hgi
              have hE2 := HE.out
              rw [show free.length = (n2 - 1) + 1 by omega, asgF, hfi] at hE2
              have HE2 := Lib.hid hE2
              have hneg : decide ((i : Int) < 0) = false := by simp
              clear hi hfi hE2 HE
              go_upto_region 13 with (go_at_call 33; (with_reducible refine (ai_is HRD.out HPI.out HI.out).mono ?_); rintro e w5 ⟨rfl, hb5⟩; have B5 := Lib.hid hb5; clear hb5)
              have hF5 := HF.out.ext B5.out
              have HF5 := Lib.hid hF5
              have g0 := hF5.f0; have g1 := hF5.p0; have g2 := hF5.pf; have hlt5 := hF5.lt
              obtain ⟨b, rfl, hb1, hb2⟩ := owns_addr hF5.fo h0
              obtain ⟨kx', hkx, hck, _, _⟩ := ownsI_at hF5.fo i hin
              obtain rfl : kx' = kx := by rw [HGI.out] at hkx; simpa using hkx.symm
              have HPR := Lib.hid (ownsI_rd hF5.po); have HPN := Lib.hid (owns_nil hF5.po)
              rw [hpb] at g1 g2 hlt5
              have hlt6 : fb < w5.heap.size := by omega
              have hpf : fb + 1 = pb := hpb
              clear hF5 hkx
              go_cut [] (fun wx => ∃ (a4 : Option Addr) (c4 : Nat), FP wx fb free (kx' :: placed) (some ⟨b, 0, none⟩) n2 c2 a4 (1 + n3) c4 ∧ Below fb w5 wx)
              case first =>
                go_region_law ((refine step_app (by rfl) _ _ _ (by rfl) hE (B := w5.heap.size) (n := 1) (v := .slice (some ⟨w5.heap.size, 0, none⟩) 1 1) (xs := [.int .i64 kx']) (news := placed.flatMap enc1) (by rfl) (by first | exact owns_one _ _ _ | exact owns_ext (owns_one _ _ _) (Below.refl _ _).drew) (by rfl) (by rw [flat_enc1, List.length_map, hln3, Nat.mul_one]) (by exact News.rd enc1_len (by decide) (HPR.out.ext (by (repeat' (first | (with_reducible exact Below.refl _ _) | (with_reducible assumption) | (with_reducible refine Below.alloc ?_ ?_ _) | (with_reducible refine Below.drew ?_) | (with_reducible refine Below.draws ?_ _) | (with_reducible refine Below.setCell ?_ ?_ _) | (refine Below.then ?_ (by with_reducible assumption)) | go_size)))) HPN.out) (by intro u hu; obtain ⟨y, _, hy⟩ := List.mem_flatMap.1 hu; exact enc1_one y u hy) (by omega) (by decide) (by simp) ?_; intro a4 c4 w6 hown6 hg6; have hB6 : Below w5.heap.size w5 w6 := Below.grown (show Below w5.heap.size w5 _ by (repeat' (first | (with_reducible exact Below.refl _ _) | (with_reducible assumption) | (with_reducible refine Below.alloc ?_ ?_ _) | (with_reducible refine Below.drew ?_) | (with_reducible refine Below.draws ?_ _) | (with_reducible refine Below.setCell ?_ ?_ _) | (refine Below.then ?_ (by with_reducible assumption)) | go_size))) hg6 (by simp) (fun j hj => by simp [Value.ownBlock] at hj; omega); have HX : Hid (FP (w6.setCell ⟨pb, 0, none⟩ (.slice a4 (1 + n3) c4)) fb free (kx' :: placed) (some ⟨b, 0, none⟩) n2 c2 a4 (1 + n3) c4) := Lib.hid (by rw [← hpf]; exact FP.placed' HF5.out hB6 hown6); have k1 := (hB6.cell (p := ⟨pb, 0, none⟩) hlt5).trans g1; have k2 := (hB6.frozen (p := ⟨pb, 0, none⟩) hlt5).trans g2; have HB6 := Lib.hid hB6; clear hown6 hg6 hB6))
                all_goals (go_wp2_with fail; go_meet; exact ⟨a4, c4, HX.out, (HB6.out.mono (by omega)).setCell (by simp only []; omega) _⟩)
              case rest =>
                obtain ⟨a4, c4, hFc, hBc⟩ := hcut
                have HFc := Lib.hid hFc; have HBc := Lib.hid hBc
                have q0 := hFc.f0; have q1 := hFc.ff; have hltc := hFc.lt
                have hwri : IntKind.i64.wrap ((i : Int) + 1) = (i : Int) + 1 := IntWalk.i64_in _ (by omega)
                have hx2 : fb < wc.heap.size := by omega
                clear hFc hBc g0 g1 g2 hck f0
                go_wp2_with (go_at_call 41; (with_reducible refine (delete_is (by omega) HFc.out.fo hin (by omega)).mono ?_); rintro e w7 ⟨rfl, hown7, hg7⟩; have hB7 : Below (fb + 2) wc w7 := (Below.refl _ wc).grown hg7 (by omega) (fun j hj => by simp at hj; omega); have k0 := (hB7.cell (p := ⟨fb, 0, none⟩) (by simp only []; omega)).trans q0; have k1 := (hB7.frozen (p := ⟨fb, 0, none⟩) (by simp only []; omega)).trans q1; have HX := Lib.hid (HFc.out.free' hown7 hg7 (fun x hx => HFc.out.ap x hx)); have HB7 := Lib.hid hB7; clear hown7 hg7 hB7)
                go_roundw
                case rel =>
                  have hcf : cutL free i = free.filter (fun n => !(n == kx')) := cutL_filter HO.out.nodup.1 HGI.out
                  refine ⟨_, _, _, _, _, _, _, _, HX.out, by rw [hcf]; exact HO.out.step (List.mem_of_getElem? HGI.out), ?_, ?_⟩
                  · rw [cutL_len (by rw [hln]; exact hin), hcf, hln]; exact HE2.out
                  · exact ((((HB2.out.trans (B5.out.mono (by omega))).trans HBc.out)).trans (HB7.out.mono (by omega))).setCell (Nat.le_refl _) _
                case measure =>
                  rw [HX.out.len, HLEN.out]; omega
          · obtain rfl : n2 = 0 := by omega
            have h0' : decide ((0 : Int) < ((0 : Nat) : Int)) = false := by simp
            have hE2 := HE.out
            obtain rfl : free = [] := List.length_eq_zero_iff.1 hln
            simp only [List.length_nil, asgF] at hE2
            subst hE2
            have hord : IsOrd L.length placed := ⟨by rw [HLL.out]; simpa using HO.out.perm⟩
            have HORD := Lib.hid hord
            have HRG : Hid (∀ x ∈ placed, 0 ≤ x ∧ x < k) := Lib.hid (fun x hx => by have := hord.mem.1 hx; rw [HLL.out] at this; exact this)
            have HPN : Hid (∀ t ∈ L, t.pcs.length ≤ 1000) := Lib.hid (fun t ht => by have := (HV.out.r.pcs t ht).2; omega)
            have HVO : Hid (ValidT (ordL L placed)) := Lib.hid (valid_of (ordL_valid HV.out hord))
            obtain ⟨ac, hac⟩ : ∃ b, accB (ordL L placed) F S = b := ⟨_, rfl⟩
            have HAC' := Lib.hid hac
            have hUN := HUN.out
            rw [asgEnd, hac] at hUN
            have HP := Lib.hid (ownsI_rd HF.out.po)
            have g1 := HF.out.p0
            rw [hpb] at g1
            clear hord hac
            cases ac
            · simp at hUN
              obtain ⟨rfl, rfl⟩ := hUN
              go_wp2_with (first
                | (go_at_call 39; (with_reducible refine (ordered_M _ _ _ L _ _ _ placed hn5 HPN.out _ HAC.out.rd HNN.out HP.out (by omega) HRG.out).mono ?_); rintro e w5 ⟨a5, c5, g5, rfl, hm5, hg5, hb5⟩; have HM5 : Hid (RdL w5 a5 k (ordL L placed)) := Lib.hid (by rw [← hg5]; exact hm5.rdL); have B5 := Lib.hid hb5; have t1 := keep_cA hb5 s1; have t2 := keep_cA hb5 s2; clear hm5 hg5 hb5)
                | (go_at_call 24; (with_reducible refine (acc_is HM5.out HVO.out HS.out HAC'.out).mono ?_); rintro e w6 ⟨rfl, hb6⟩; have B6 := Lib.hid hb6; clear hb6))
              go_ret2
              exact .none (Below.then (Below.then HBW.out B5.out) B6.out)
            · simp at hUN
              obtain ⟨hux, rfl⟩ := hUN
              have HUX := Lib.hid hux
              clear hux
              go_wp2_with (first
                | (go_at_call 39; (with_reducible refine (ordered_M _ _ _ L _ _ _ placed hn5 HPN.out _ HAC.out.rd HNN.out HP.out (by omega) HRG.out).mono ?_); rintro e w5 ⟨a5, c5, g5, rfl, hm5, hg5, hb5⟩; have HM5 : Hid (RdL w5 a5 k (ordL L placed)) := Lib.hid (by rw [← hg5]; exact hm5.rdL); have B5 := Lib.hid hb5; have t1 := keep_cA hb5 s1; have t2 := keep_cA hb5 s2; clear hm5 hg5 hb5)
                | (go_at_call 24; (with_reducible refine (acc_is HM5.out HVO.out HS.out HAC'.out).mono ?_); rintro e w6 ⟨rfl, hb6⟩; have B6 := Lib.hid hb6; clear hb6))
              have HM6 := Lib.hid (HM5.out.ext B6.out)
              have HBW6 := Lib.hid (Below.then (Below.then HBW.out B5.out) B6.out)
              go_loopw [11, 57] (fun v i wr => ∃ (j : Nat) (a' : Option Addr) (c' : Nat), j ≤ k ∧ v = .slice a' j c' ∧ i = .int .i64 j ∧ wr.ownsRow w6.heap.size 3 1 (.slice a' j c') j ((((ordL L placed).take j).map Ta.pri).flatMap enc1) ∧ Below w6.heap.size w6 wr) (fun _ i _ => k - (intOf i).toNat)
              case atStart => exact ⟨0, none, 0, Nat.zero_le _, rfl, rfl, World.ownsRow_nil _ _ _ _, Below.refl _ _⟩
              case round =>
                obtain ⟨j, a', c', hj, rfl, rfl, hO9, hB9⟩ := hrel
                have HO9 := Lib.hid hO9; have HB9 := Lib.hid hB9
                have hz9 := hB9.size
                clear hO9 hB9
                by_cases hjk : j < k
                · obtain ⟨t, b8, off, pa, pn, pc, rfl, hb8, c0, c1, c2', c3', c4, c5, hp, _, hg, HD⟩ := (HM6.out.ext HB9.out).at_ j hjk
                  have HTK := Lib.hid (take_of_drop HD.out)
                  have n1 : ¬ b8 = wr.heap.size := by omega
                  clear hp hg HD
                  obtain ⟨W9, hW9⟩ : ∃ W9, wr.alloc (.cells #[.int .i64 t.pri, .int .i64 t.dl, .int .i64 t.first, .int .i64 t.gap, .int .i64 t.jit, .slice pa pn pc] 45) = W9 := ⟨_, rfl⟩
                  have hbw9 : Below wr.heap.size wr W9 := by rw [← hW9]; (repeat' (first | (with_reducible exact Below.refl _ _) | (with_reducible assumption) | (with_reducible refine Below.alloc ?_ ?_ _) | (with_reducible refine Below.drew ?_) | (with_reducible refine Below.draws ?_ _) | (with_reducible refine Below.setCell ?_ ?_ _) | (refine Below.then ?_ (by with_reducible assumption)) | go_size))
                  have HBW9 := Lib.hid hbw9
                  have hzw9 := hbw9.size
                  have HO10 := Lib.hid (owns_ext HO9.out hbw9)
                  have z0 : W9.cell? ⟨wr.heap.size, 0, none⟩ = some (.int .i64 t.pri) := by rw [← hW9]; simp [go_sem]
                  have hlz := World.block_lt_of_cell? W9 _ z0
                  simp only [] at hlz
                  clear hbw9
                  go_wp2_with (at_builtin; refine wpList_push (B := w6.heap.size) rfl _ _ _ rfl hE rfl HO10.out rfl rfl (by intro u hu; simp at hu; subst hu; rfl) (by omega) (by decide) (by omega) ?_; intro a10 c10 w10 hown10 hb10; have HO11 := Lib.hid hown10; have B10 := Lib.hid hb10; clear hown10 hb10)
                  go_roundw
                  case rel => exact ⟨j + 1, a10, c10, by omega, rfl, by go_num, by rw [HTK.out, List.map_append, List.flatMap_append]; exact HO11.out, (HB9.out.trans (HBW9.out.mono hz9)).trans B10.out⟩
                  case measure => simp [intOf]; omega
                · obtain rfl : j = k := by omega
                  have hO := HO9.out
                  rw [List.take_of_length_le (by rw [ordL_len, HLL.out]; exact Nat.le_refl _), HUX.out] at hO
                  have HO12 := Lib.hid hO
                  clear hO
                  go_wp2_with fail
                  go_ret2
                  exact ⟨_, _, _, rfl, owns_mono HO12.out HBW6.out.size, Below.then HBW6.out HB9.out⟩
end Go.Proofs.YtmahagcghpoekaaGreat
namespace Go.Proofs.YtmahagcghpoekaaGreat
open Go.RowKit
set_option linter.unusedSimpArgs false
set_option linter.unusedVariables false
/-- what Assign finds: priorities that are an order's -/
structure AsgOk (L : List Ta) (F S : Int) (xs : List Int) : Prop where
  len : xs.length = L.length
  rng : ∀ x ∈ xs, 0 ≤ x ∧ x < L.length
  nd : xs.Nodup
  v : ValidT L
  acc : ∀ K : List Ta, K.length = L.length → (∀ (j : Nat) (t u : Ta) (x : Int), L[j]? = some t → K[j]? = some u → xs[j]? = some x → u = { t with pri := x }) → accE K F S = 0
theorem asgR_is {L : List Ta} {F S : Int} {xs : List Int} (h : asgR L F S = (xs, 0)) : AsgOk L F S xs := by
  cases hok : okB L F S
  · unfold asgR at h; rw [hok] at h; simp at h
  · rw [asgR_ok hok] at h
    cases hp : asgF L F S L.length (idxs L.length) [] with
    | none => rw [hp] at h; simp [asgEnd] at h
    | some p =>
      rw [hp, asgEnd] at h
      split at h
      · rename_i ha
        simp at h
        have ho := asg_ord hp
        have hvs : validL L = true ∧ supB F S = true := by unfold okB at hok; simpa using hok
        have hV := valid_of hvs.1
        have hx : ∀ (j : Nat), j < L.length → ∃ q : Nat, p[q]? = some (j : Int) ∧ q < L.length ∧ xs[j]? = some ((L.length : Int) - 1 - q) := fun j hj => by
          obtain ⟨q, hq⟩ := idx_of_mem (x := (j : Int)) (ho.mem.2 ⟨by omega, by omega⟩)
          have hql := (List.getElem?_eq_some_iff.1 hq).1
          rw [ho.len] at hql
          refine ⟨q, hq, hql, ?_⟩
          have hjl : j < (ordL L p).length := by rw [ordL_len]; exact hj
          have e := taAt_of (List.getElem?_eq_getElem hjl)
          have hpr := ordL_pri ho hq
          unfold priI at hpr
          rw [e] at hpr
          rw [← h, List.getElem?_map, List.getElem?_eq_getElem hjl]
          simp [hpr]
        have hxl : xs.length = L.length := by rw [← h]; simp [ordL_len]
        refine ⟨hxl, fun x hm => ?_, ?_, hV, fun K hK hk => ?_⟩
        · obtain ⟨j, hj⟩ := List.getElem?_of_mem hm
          have hjl := (List.getElem?_eq_some_iff.1 hj).1
          obtain ⟨q, _, hq, e⟩ := hx j (by omega)
          rw [hj] at e; simp at e; omega
        · refine List.pairwise_iff_getElem.2 (fun i j hi hj hij e => ?_)
          obtain ⟨q, hq, _, e1⟩ := hx i (by omega)
          obtain ⟨r, hr, _, e2⟩ := hx j (by omega)
          rw [List.getElem?_eq_getElem hi] at e1
          rw [List.getElem?_eq_getElem hj] at e2
          simp at e1 e2
          have : q = r := by omega
          subst this
          rw [hq] at hr
          simp at hr
          omega
        · have hKO : K = ordL L p := by
            apply List.ext_getElem?
            intro j
            by_cases hj : j < L.length
            · obtain ⟨q, hq, _, e1⟩ := hx j hj
              have h1 : K[j]? = some (K[j]'(by omega)) := List.getElem?_eq_getElem (by omega)
              have h2 := hk j _ _ _ (List.getElem?_eq_getElem hj) h1 e1
              have hjl : j < (ordL L p).length := by rw [ordL_len]; exact hj
              have e := taAt_of (List.getElem?_eq_getElem hjl)
              have hpr := ordL_pri ho hq
              unfold priI at hpr
              rw [h1, List.getElem?_eq_getElem hjl, h2, ← e, ordL_at ho (by omega)]
              rw [ordL_at ho (by omega)] at hpr
              simp only [] at hpr
              rw [hpr, taAt_of (List.getElem?_eq_getElem hj)]
            · rw [List.getElem?_eq_none (by omega), List.getElem?_eq_none (by rw [ordL_len]; omega)]
          rw [hKO]
          unfold accE okB
          rw [ordL_valid hV ho, hvs.2, ha]; rfl
      · simp at h
theorem Assign_is' {a : Option Addr} {n c : Nat} {F S y : Int} {xs : List Int} {L : List Ta} {w : World} (hL : RdL w a n L) (hN : NilOk a n c) (h : asgR L F S = (xs, y)) :
    Calls Tryz.prog 14 #[.slice a n c, .agg #[.int .i64 F, .int .i64 S]] w (OutIE w.heap.size w xs y) := by
  have := Assign_any a n c F S L w hL hN
  rw [h] at this; exact this
/-- the tasks whose priorities are set so far -/
def PrL (L K : List Ta) (xs : List Int) (i : Nat) : Prop := K.length = L.length ∧ ∀ (j : Nat) (t u : Ta) (x : Int), L[j]? = some t → K[j]? = some u → xs[j]? = some x → (j < i → u = { t with pri := x }) ∧ (i ≤ j → u = t)
theorem PrL.start (L : List Ta) (xs : List Int) : PrL L L xs 0 := ⟨rfl, fun j t u x h1 h2 _ => ⟨fun h => by omega, fun _ => by rw [h1] at h2; simpa using h2.symm⟩⟩
theorem PrL.set {L K : List Ta} {xs : List Int} {i : Nat} (h : PrL L K xs i) {u : Ta} (hu : K[i]? = some u) {x : Int} (hx : xs[i]? = some x) : PrL L (K.set i { u with pri := x }) xs (i + 1) := by
  refine ⟨by simpa using h.1, fun j t v y h1 h2 h3 => ?_⟩
  rw [List.getElem?_set] at h2
  split at h2
  · rename_i e; subst e
    split at h2
    · simp at h2; subst h2
      rw [hx] at h3; simp at h3; subst h3
      have := (h.2 _ t u x h1 hu hx).2 (Nat.le_refl _)
      subst this
      exact ⟨fun _ => rfl, fun h => by omega⟩
    · simp at h2
  · rename_i e
    have := h.2 j t v y h1 h2 h3
    exact ⟨fun hj => this.1 (by omega), fun hj => this.2 (by omega)⟩
theorem slice_ok {K : List Ta} {F S : Int} (hv : validL K = true) (hs : supB F S = true) (ha : accB K F S = true) : ∃ m : Int, sliceR K F = (m, 0) ∧ S ≤ m ∧ supB F m = true ∧ accB K F m = true := by
  have h := supB_iff.1 hs
  have key : ∀ f : Nat, S < f → ∃ m : Nat, sliceGo K F f = ((m : Int), 0) ∧ S ≤ m ∧ m < f ∧ accB K F m = true := by
    intro f
    induction f with
    | zero => intro h; omega
    | succ f ih =>
      intro hf
      rw [sliceGo]
      by_cases hc : accB K F (f : Int) = true
      · rw [if_pos hc]; exact ⟨f, rfl, by omega, by omega, hc⟩
      · rw [if_neg hc]
        have hne : S ≠ (f : Int) := fun e => hc (e ▸ ha)
        obtain ⟨m, h1, h2, h3, h4⟩ := ih (by omega)
        exact ⟨m, h1, h2, by omega, h4⟩
  obtain ⟨m, h1, h2, h3, h4⟩ := key F.toNat (by omega)
  refine ⟨m, ?_, h2, supB_iff.2 ⟨h.1, by omega⟩, h4⟩
  unfold sliceR
  rw [hv, inB_iff.2 h.1]
  exact h1
end Go.Proofs.YtmahagcghpoekaaGreat
namespace Go.Proofs.YtmahagcghpoekaaGreat
open Go.RowKit
set_option linter.unusedSimpArgs false
set_option linter.unusedVariables false
theorem E2p : Elt Tryz.prog 27 46 2 16 := Elt.mk' (z := .agg #[.int .i64 0, .int .i64 0]) Tryz.underlying27 (by kernel_rfl) rfl (by decide)
/-- the low bits of a number -/
def low31 (x : Int) : Int := bits .and .i64 x 31
def low1023 (x : Int) : Int := bits .and .i64 x 1023
theorem low_bd (x : Int) (m : Nat) (hm : m ≤ 1023) : 0 ≤ bits .and .i64 x (m : Int) ∧ bits .and .i64 x (m : Int) ≤ m := by
  unfold bits
  simp only [BitVec.toNat_and, BitVec.ofInt_natCast]
  have h1 : (BitVec.ofInt IntKind.i64.bits x).toNat &&& (BitVec.ofNat IntKind.i64.bits m).toNat ≤ m := by
    refine Nat.le_trans Nat.and_le_right ?_
    rw [BitVec.toNat_ofNat]
    exact Nat.mod_le _ _
  generalize (BitVec.ofInt IntKind.i64.bits x).toNat &&& (BitVec.ofNat IntKind.i64.bits m).toNat = q at h1
  rw [IntWalk.i64_in _ (by omega)]
  omega
theorem low31_bd (x : Int) : 0 ≤ low31 x ∧ low31 x ≤ 31 := low_bd x 31 (by decide)
theorem low1023_bd (x : Int) : 0 ≤ low1023 x ∧ low1023 x ≤ 1023 := low_bd x 1023 (by decide)
/-- the events: f more at most, from t on -/
def evs (g j : Int) : Nat → Int → List P2 → List P2
  | 0, _, _ => []
  | _ + 1, _, [] => []
  | f + 1, t, x :: xs => if t < 2000 then (t + low31 x.1, low1023 x.2 % (j + 1)) :: evs g j f (t + low31 x.1 + g) xs else []
theorem evs_len (g j : Int) : ∀ (f : Nat) (t : Int) (xs : List P2), (evs g j f t xs).length ≤ f
  | 0, _, _ => by simp [evs]
  | f + 1, _, [] => by simp [evs]
  | f + 1, t, x :: xs => by
    rw [evs]
    split
    · have := evs_len g j f (t + low31 x.1 + g) xs
      simp; omega
    · simp
/-- a pattern allows them -/
theorem evs_allowed {g j : Int} (hj : 0 ≤ j) : ∀ (f : Nat) (t l : Int) (xs : List P2), l ≤ t → allowGo g j l (evs g j f t xs) = true
  | 0, _, _, _, _ => by simp [evs, allowGo]
  | f + 1, _, _, [], _ => by simp [evs, allowGo]
  | f + 1, t, l, x :: xs, h => by
    rw [evs]
    split
    · have h1 := low31_bd x.1
      have h2 := low1023_bd x.2
      have h3 := Int.emod_nonneg (low1023 x.2) (show j + 1 ≠ 0 by omega)
      have h4 := Int.emod_lt_of_pos (low1023 x.2) (show 0 < j + 1 by omega)
      rw [allowGo, if_neg (by simp only []; omega)]
      exact evs_allowed hj f _ _ xs (by simp only []; omega)
    · simp [allowGo]
theorem evs_fine {g j : Int} (hg : 1 ≤ g ∧ g ≤ 10000) (hj : 0 ≤ j ∧ j ≤ 10000) : ∀ (f : Nat) (t : Int) (xs : List P2), 0 ≤ t → ∀ e ∈ evs g j f t xs, (0 ≤ e.1 ∧ e.1 ≤ 2031) ∧ (0 ≤ e.2 ∧ e.2 ≤ 10000)
  | 0, _, _, _, e, he => by simp [evs] at he
  | f + 1, _, [], _, e, he => by simp [evs] at he
  | f + 1, t, x :: xs, h, e, he => by
    rw [evs] at he
    split at he
    · have h1 := low31_bd x.1
      have h2 := low1023_bd x.2
      have h3 := Int.emod_nonneg (low1023 x.2) (show j + 1 ≠ 0 by omega)
      rcases List.mem_cons.1 he with rfl | he
      · simp only []
        have h4 := Int.emod_lt_of_pos (low1023 x.2) (show 0 < j + 1 by omega)
        omega
      · exact evs_fine hg hj f _ xs (by omega) e he
    · simp at he
theorem evs_step {g j t : Int} {f : Nat} {x : P2} {xs : List P2} (h : t < 2000) : evs g j (f + 1) t (x :: xs) = (t + low31 x.1, low1023 x.2 % (j + 1)) :: evs g j f (t + low31 x.1 + g) xs := by rw [evs, if_pos h]
theorem evs_late {g j t : Int} {f : Nat} {xs : List P2} (h : ¬ t < 2000) : evs g j f t xs = [] := by
  cases f with
  | zero => rfl
  | succ f => cases xs with
    | nil => rfl
    | cons x xs => rw [evs, if_neg h]
set_option maxRecDepth 100000 in
set_option maxHeartbeats 4000000 in
theorem eventsB_any (f g j : Int) (hf : 0 ≤ f ∧ f ≤ 10000) (hg : 1 ≤ g ∧ g ≤ 10000) (hj : 0 ≤ j ∧ j ≤ 10000) (a : Option Addr) (n c : Nat) (xs : List P2) (w : World) (hR : Rd w a n 2 (xs.map enc2)) :
    Calls Tryz.prog 43 #[.agg #[.int .i64 f, .int .i64 g, .int .i64 j], .slice a n c] w fun e w' => ∃ a' n' c', e = .returned (.slice a' n' c') ∧ w'.ownsRow w.heap.size 46 2 (.slice a' n' c') n' ((evs g j 12 f xs).flatMap enc2) ∧ Below w.heap.size w w' := by
  have HL := Lib.hid hR.length
  have hs := hR.small
  have e2 := E2p
  have HR := Lib.hid hR
  obtain ⟨R, hRR⟩ : ∃ R, evs g j 12 f xs = R := ⟨_, rfl⟩
  rw [hRR]
  have HRR : Hid ([] ++ evs g j (12 - 0) f (xs.drop 0) = R) := Lib.hid hRR
  clear hR hRR
  go_enter Tryz.func43, Tryz.ntmps43
  go_wp2
  go_loopw [5, 6, 7] (fun v5 v6 v7 wr => ∃ (k m : Nat) (t : Int) (pre : List P2) (a' : Option Addr) (c' : Nat), k ≤ n ∧ k ≤ 12 ∧ v5 = .slice a' m c' ∧ v6 = .int .i64 t ∧ v7 = .int .i64 k ∧ pre ++ evs g j (12 - k) t (xs.drop k) = R ∧ m ≤ k ∧ (0 ≤ t ∧ t ≤ 10000 + k * 10031) ∧ wr.ownsRow (w.heap.size + 1) 46 2 (.slice a' m c') m (pre.flatMap enc2) ∧ wr.cell? ⟨w.heap.size, 1, none⟩ = some (.int .i64 g) ∧ wr.cell? ⟨w.heap.size, 2, none⟩ = some (.int .i64 j) ∧ w.heap.size + 1 ≤ wr.heap.size ∧ Below w.heap.size w wr) (fun _ _ v _ => n - (intOf v).toNat)
  case atStart => exact ⟨0, 0, f, [], none, 0, Nat.zero_le _, by decide, rfl, rfl, rfl, HRR.out, Nat.le_refl _, by omega, World.ownsRow_nil _ _ _ _, by simp [go_sem], by simp [go_sem], by simp, by (repeat' (first | (with_reducible exact Below.refl _ _) | (with_reducible assumption) | (with_reducible refine Below.alloc ?_ ?_ _) | (with_reducible refine Below.drew ?_) | (with_reducible refine Below.draws ?_ _) | (with_reducible refine Below.setCell ?_ ?_ _) | (refine Below.then ?_ (by with_reducible assumption)) | go_size))⟩
  case round =>
    obtain ⟨k, m, t, pre, a', c', hk, hk12, rfl, rfl, rfl, hE, hm, ht, hO, hg1, hj1, hz, hB⟩ := hrel
    have HE := Lib.hid hE; have HO := Lib.hid hO; have HB := Lib.hid hB
    clear HRR
    by_cases hgo : k < n ∧ k < 12 ∧ t < 2000
    · obtain ⟨hkn, hk2, ht2⟩ := hgo
      obtain ⟨⟨x1, x2⟩, b, off, rfl, hb, h1, h2, HD⟩ := (HR.out.ext hB).next2 k hkn
      simp only [] at h1 h2
      have q1 : decide ((k : Int) < 12) = true := by simp <;> omega
      have q2 : decide (t < 2000) = true := by simpa using ht2
      obtain ⟨A, hA⟩ : ∃ A, low31 x1 = A := ⟨_, rfl⟩
      obtain ⟨M, hM⟩ : ∃ M, low1023 x2 = M := ⟨_, rfl⟩
      have hAb := low31_bd x1
      have hMb := low1023_bd x2
      rw [hA] at hAb
      rw [hM] at hMb
      have hA1 : bits BinOp.and IntKind.i64 x1 31 = A := hA
      have hM1 : bits BinOp.and IntKind.i64 x2 1023 = M := hM
      have hE2 := hE
      rw [HD.out, show 12 - k = (12 - (k + 1)) + 1 by omega, evs_step ht2] at hE2
      simp only [hA, hM] at hE2
      obtain ⟨Mr, hMr⟩ : ∃ x, M % (j + 1) = x := ⟨_, rfl⟩
      have hMr2 : M.tmod (j + 1) = Mr := by rw [Int.tmod_eq_emod_of_nonneg hMb.1]; exact hMr
      have hj0 : j + 1 ≠ 0 := by omega
      rw [hMr] at hE2
      have HE2 := Lib.hid hE2
      obtain ⟨T, hT⟩ : ∃ T, t + A = T := ⟨_, rfl⟩
      rw [hT] at HE2
      have wt : IntKind.i64.wrap (t + A) = T := by rw [IntWalk.i64_in _ (by omega), hT]
      have wj : IntKind.i64.wrap (j + 1) = j + 1 := IntWalk.i64_in _ (by omega)
      have wg : IntKind.i64.wrap (T + g) = T + g := IntWalk.i64_in _ (by omega)
      have hTb : 0 ≤ T + g ∧ T + g ≤ 10000 + ((k + 1 : Nat) : Int) * 10031 := by omega
      have hbz : b < wr.heap.size := Nat.lt_of_lt_of_le hb (Nat.le_refl _)
      obtain ⟨_, b0, o0, e0, hb0, _, _, _⟩ := HR.out.next2 k hkn
      simp at e0
      obtain ⟨rfl, rfl⟩ := e0
      have H2 := Lib.hid h2; have HJ := Lib.hid hj1; have HG := Lib.hid hg1
      have j1 := (HO.out.alloc (.cells #[.int .i64 T, .int .i64 Mr] 46)).drew
      have j2 : News ((wr.alloc (.cells #[.int .i64 T, .int .i64 Mr] 46)).drew) (some ⟨wr.heap.size, 0, none⟩) 1 1 [.int .i64 T, .int .i64 Mr] := .inr ⟨_, rfl, World.news_of_block (heap_alloc_new _ _)⟩
      have j3 : w.heap.size + 1 ≤ ((wr.alloc (.cells #[.int .i64 T, .int .i64 Mr] 46)).drew).heap.size := by simp; omega
      have J1 := Lib.hid j1; have J2 := Lib.hid j2; have J3 := Lib.hid j3
      clear hE hO hB hE2 hA hM hMr hT j1 j2 j3
      go_upto_region 7 with fail
      go_region_held3 (fun w' => w'.cell? ⟨b, off + k * 2 + 1, none⟩ = some (.int .i64 x2) ∧ w'.cell? ⟨w.heap.size, 2, none⟩ = some (.int .i64 j)) (first | go_keep)
        (first
         | (refine step_app (by rfl) _ _ _ (by rfl) e2 (B := w.heap.size + 1) (news := [.int .i64 T, .int .i64 Mr]) (by rfl) J1.out (by rfl) (by rfl) J2.out (by intro u hu; simp at hu; rcases hu with rfl | rfl <;> rfl) (by omega) (by decide) J3.out ?_
            intro a2 c2 w2 hown2 hg2
            have HO2 := Lib.hid hown2
            have HB2 := Lib.hid (Below.trans (Below.alloc (Below.refl (w.heap.size + 1) wr) hz _).drew (grown_below (B := w.heap.size + 1) (e := 46) (k := 2) J1.out hg2 J3.out))
            have q3 := (HB2.out.cell (p := ⟨b, off + k * 2 + 1, none⟩) (show b < w.heap.size + 1 by omega)).trans H2.out
            have q4 := (HB2.out.cell (p := ⟨w.heap.size, 2, none⟩) (show w.heap.size < w.heap.size + 1 by omega)).trans HJ.out
            have q5 := (HB2.out.cell (p := ⟨w.heap.size, 1, none⟩) (show w.heap.size < w.heap.size + 1 by omega)).trans HG.out
            clear hown2 hg2))
      have hz2 := HB2.out.size
      have zz : w.heap.size < w2.heap.size := by omega
      go_wp2
      go_roundw
      case rel =>
        refine ⟨k + 1, m + 1, T + g, pre ++ [(T, Mr)], a2, c2, hkn, by omega, rfl, rfl, by go_num, ?_, by omega, hTb, ?_, q5, q4, by omega, HB.out.trans (HB2.out.mono (by omega))⟩
        · rw [List.append_assoc, List.singleton_append]; exact HE2.out
        · rw [List.flatMap_append]; exact HO2.out
      case measure => simp [intOf]; omega
    · have hend : evs g j (12 - k) t (xs.drop k) = [] := by
        by_cases h1 : k < n
        · by_cases h2 : k < 12
          · exact evs_late (fun h3 => hgo ⟨h1, h2, h3⟩)
          · rw [show 12 - k = 0 by omega]; rfl
        · rw [List.drop_of_length_le (by rw [HL.out]; omega)]
          cases 12 - k <;> rfl
      have hpre : pre = R := by rw [hend, List.append_nil] at hE; exact hE
      subst hpre
      have hc : (¬ k < n) ∨ (k < n ∧ ¬ k < 12) ∨ (k < n ∧ k < 12 ∧ ¬ t < 2000) := by omega
      clear hE hO hB hend hgo
      rcases hc with h1 | ⟨h1, h2⟩ | ⟨h1, h2, h3⟩
      · have h1' : decide (k < n) = false := by simpa using h1
        have h1'' : decide ((k : Int) < (n : Int)) = false := by simp <;> omega
        go_wp2
        go_ret
        exact ⟨_, _, _, rfl, owns_mono HO.out (Nat.le_succ _), HB.out⟩
      · have h2' : decide (k < 12) = false := by simpa using h2
        have h2'' : decide ((k : Int) < 12) = false := by simp <;> omega
        go_wp2
        go_ret
        exact ⟨_, _, _, rfl, owns_mono HO.out (Nat.le_succ _), HB.out⟩
      · have h2'' : decide ((k : Int) < 12) = true := by simp <;> omega
        have h3' : decide (t < 2000) = false := by simpa using h3
        go_wp2
        go_ret
        exact ⟨_, _, _, rfl, owns_mono HO.out (Nat.le_succ _), HB.out⟩
end Go.Proofs.YtmahagcghpoekaaGreat
namespace Go.Proofs.YtmahagcghpoekaaGreat
open Go.RowKit
set_option linter.unusedSimpArgs false
set_option linter.unusedVariables false
def rdyB (n : Nat) (L : List Ta) (F S : Int) (ln : Nat) (t : Int) : Bool := (!manyL n L) && (decide (ln ≤ 20) && (decide (0 ≤ t ∧ t ≤ 600) && (validL L && supB F S)))
set_option maxRecDepth 100000 in
set_option maxHeartbeats 4000000 in
theorem readyB_any (a : Option Addr) (n c : Nat) (L : List Ta) (F S : Int) (la : Option Addr) (ln lc : Nat) (t : Int) (w : World) (hL : RdL w a n L) (hT : ∀ t ∈ L, t.pcs.length ≤ 281474976710656) :
    Calls Tryz.prog 12 #[.slice a n c, .agg #[.int .i64 F, .int .i64 S], .slice la ln lc, .int .i64 t] w fun e w' => e = .returned (.bool (rdyB n L F S ln t)) ∧ Below w.heap.size w w' := by
  have HM := Lib.hid (fun w' (hb : Below w.heap.size w w') => many_any a n c L w' (hL.ext hb) hT)
  obtain ⟨vl, hvl⟩ : ∃ v, validL L = v := ⟨_, rfl⟩
  have HV := Lib.hid (fun w' (hb : Below w.heap.size w w') => rValid_is (c := c) (hL.ext hb) hvl)
  obtain ⟨vs, hvs⟩ : ∃ v, supB F S = v := ⟨_, rfl⟩
  have HS := Lib.hid hvs
  obtain ⟨m, hm⟩ : ∃ v, manyL n L = v := ⟨_, rfl⟩
  unfold rdyB
  rw [hm] at HM
  rw [hm, hvl, hvs]
  clear hL hT hvl hvs hm
  cases m
  · by_cases h1 : ln ≤ 20
    · have h1' : decide ((20 : Int) < (ln : Int)) = false := by simp <;> omega
      have h1'' : decide (20 < ln) = false := by simp <;> omega
      rw [decide_eq_true h1]
      by_cases h2 : t < 0
      · have h2' : decide (t < 0) = true := by simpa using h2
        rw [decide_eq_false (show ¬ (0 ≤ t ∧ t ≤ 600) by omega)]
        go_enter Tryz.func12, Tryz.ntmps12
        go_wp2_with (go_at_call 29; (with_reducible refine (HM.out _ (by (repeat' (first | (with_reducible exact Below.refl _ _) | (with_reducible assumption) | (with_reducible refine Below.alloc ?_ ?_ _) | (with_reducible refine Below.drew ?_) | (with_reducible refine Below.draws ?_ _) | (with_reducible refine Below.setCell ?_ ?_ _) | (refine Below.then ?_ (by with_reducible assumption)) | go_size)))).mono ?_); rintro e w9 ⟨rfl, rfl⟩)
        go_ret
        exact ⟨rfl, by (repeat' (first | (with_reducible exact Below.refl _ _) | (with_reducible assumption) | (with_reducible refine Below.alloc ?_ ?_ _) | (with_reducible refine Below.drew ?_) | (with_reducible refine Below.draws ?_ _) | (with_reducible refine Below.setCell ?_ ?_ _) | (refine Below.then ?_ (by with_reducible assumption)) | go_size))⟩
      · have h2' : decide (t < 0) = false := by simpa using h2
        by_cases h3 : 600 < t
        · have h3' : decide (600 < t) = true := by simpa using h3
          rw [decide_eq_false (show ¬ (0 ≤ t ∧ t ≤ 600) by omega)]
          go_enter Tryz.func12, Tryz.ntmps12
          go_wp2_with (go_at_call 29; (with_reducible refine (HM.out _ (by (repeat' (first | (with_reducible exact Below.refl _ _) | (with_reducible assumption) | (with_reducible refine Below.alloc ?_ ?_ _) | (with_reducible refine Below.drew ?_) | (with_reducible refine Below.draws ?_ _) | (with_reducible refine Below.setCell ?_ ?_ _) | (refine Below.then ?_ (by with_reducible assumption)) | go_size)))).mono ?_); rintro e w9 ⟨rfl, rfl⟩)
          go_ret
          exact ⟨rfl, by (repeat' (first | (with_reducible exact Below.refl _ _) | (with_reducible assumption) | (with_reducible refine Below.alloc ?_ ?_ _) | (with_reducible refine Below.drew ?_) | (with_reducible refine Below.draws ?_ _) | (with_reducible refine Below.setCell ?_ ?_ _) | (refine Below.then ?_ (by with_reducible assumption)) | go_size))⟩
        · have h3' : decide (600 < t) = false := by simpa using h3
          rw [decide_eq_true (show (0 ≤ t ∧ t ≤ 600) by omega)]
          cases vl
          · go_enter Tryz.func12, Tryz.ntmps12
            go_wp2_with (first | (go_at_call 29; (with_reducible refine (HM.out _ (by (repeat' (first | (with_reducible exact Below.refl _ _) | (with_reducible assumption) | (with_reducible refine Below.alloc ?_ ?_ _) | (with_reducible refine Below.drew ?_) | (with_reducible refine Below.draws ?_ _) | (with_reducible refine Below.setCell ?_ ?_ _) | (refine Below.then ?_ (by with_reducible assumption)) | go_size)))).mono ?_); rintro e w9 ⟨rfl, rfl⟩) | (go_at_call 30; (with_reducible refine (HV.out _ (by (repeat' (first | (with_reducible exact Below.refl _ _) | (with_reducible assumption) | (with_reducible refine Below.alloc ?_ ?_ _) | (with_reducible refine Below.drew ?_) | (with_reducible refine Below.draws ?_ _) | (with_reducible refine Below.setCell ?_ ?_ _) | (refine Below.then ?_ (by with_reducible assumption)) | go_size)))).mono ?_); rintro e w1 ⟨rfl, hb1⟩; have x0 := (hb1.cell (p := ⟨w.heap.size, 0, none⟩) (by simp)).trans (show _ = some (.int .i64 F) by simp [go_sem]); have x1 := (hb1.cell (p := ⟨w.heap.size, 1, none⟩) (by simp)).trans (show _ = some (.int .i64 S) by simp [go_sem]); have B1 : Hid (Below w.heap.size w w1) := Lib.hid (Below.trans (by (repeat' (first | (with_reducible exact Below.refl _ _) | (with_reducible assumption) | (with_reducible refine Below.alloc ?_ ?_ _) | (with_reducible refine Below.drew ?_) | (with_reducible refine Below.draws ?_ _) | (with_reducible refine Below.setCell ?_ ?_ _) | (refine Below.then ?_ (by with_reducible assumption)) | go_size))) (hb1.mono (by simp))); have z1 : w.heap.size < w1.heap.size := Nat.lt_of_lt_of_le (by simp) hb1.size; clear hb1))
            go_ret
            exact ⟨rfl, B1.out⟩
          · cases vs
            · go_enter Tryz.func12, Tryz.ntmps12
              go_wp2_with (first | (go_at_call 29; (with_reducible refine (HM.out _ (by (repeat' (first | (with_reducible exact Below.refl _ _) | (with_reducible assumption) | (with_reducible refine Below.alloc ?_ ?_ _) | (with_reducible refine Below.drew ?_) | (with_reducible refine Below.draws ?_ _) | (with_reducible refine Below.setCell ?_ ?_ _) | (refine Below.then ?_ (by with_reducible assumption)) | go_size)))).mono ?_); rintro e w9 ⟨rfl, rfl⟩) | (go_at_call 31; (with_reducible refine (rsupV_is HS.out).mono ?_); rintro e w2 ⟨rfl, hb2⟩; have B2 := Lib.hid (Below.then B1.out hb2); clear hb2) | (go_at_call 30; (with_reducible refine (HV.out _ (by (repeat' (first | (with_reducible exact Below.refl _ _) | (with_reducible assumption) | (with_reducible refine Below.alloc ?_ ?_ _) | (with_reducible refine Below.drew ?_) | (with_reducible refine Below.draws ?_ _) | (with_reducible refine Below.setCell ?_ ?_ _) | (refine Below.then ?_ (by with_reducible assumption)) | go_size)))).mono ?_); rintro e w1 ⟨rfl, hb1⟩; have x0 := (hb1.cell (p := ⟨w.heap.size, 0, none⟩) (by simp)).trans (show _ = some (.int .i64 F) by simp [go_sem]); have x1 := (hb1.cell (p := ⟨w.heap.size, 1, none⟩) (by simp)).trans (show _ = some (.int .i64 S) by simp [go_sem]); have B1 : Hid (Below w.heap.size w w1) := Lib.hid (Below.trans (by (repeat' (first | (with_reducible exact Below.refl _ _) | (with_reducible assumption) | (with_reducible refine Below.alloc ?_ ?_ _) | (with_reducible refine Below.drew ?_) | (with_reducible refine Below.draws ?_ _) | (with_reducible refine Below.setCell ?_ ?_ _) | (refine Below.then ?_ (by with_reducible assumption)) | go_size))) (hb1.mono (by simp))); have z1 : w.heap.size < w1.heap.size := Nat.lt_of_lt_of_le (by simp) hb1.size; clear hb1))
              go_ret
              exact ⟨rfl, B2.out⟩
            · go_enter Tryz.func12, Tryz.ntmps12
              go_wp2_with (first | (go_at_call 29; (with_reducible refine (HM.out _ (by (repeat' (first | (with_reducible exact Below.refl _ _) | (with_reducible assumption) | (with_reducible refine Below.alloc ?_ ?_ _) | (with_reducible refine Below.drew ?_) | (with_reducible refine Below.draws ?_ _) | (with_reducible refine Below.setCell ?_ ?_ _) | (refine Below.then ?_ (by with_reducible assumption)) | go_size)))).mono ?_); rintro e w9 ⟨rfl, rfl⟩) | (go_at_call 31; (with_reducible refine (rsupV_is HS.out).mono ?_); rintro e w2 ⟨rfl, hb2⟩; have B2 := Lib.hid (Below.then B1.out hb2); clear hb2) | (go_at_call 30; (with_reducible refine (HV.out _ (by (repeat' (first | (with_reducible exact Below.refl _ _) | (with_reducible assumption) | (with_reducible refine Below.alloc ?_ ?_ _) | (with_reducible refine Below.drew ?_) | (with_reducible refine Below.draws ?_ _) | (with_reducible refine Below.setCell ?_ ?_ _) | (refine Below.then ?_ (by with_reducible assumption)) | go_size)))).mono ?_); rintro e w1 ⟨rfl, hb1⟩; have x0 := (hb1.cell (p := ⟨w.heap.size, 0, none⟩) (by simp)).trans (show _ = some (.int .i64 F) by simp [go_sem]); have x1 := (hb1.cell (p := ⟨w.heap.size, 1, none⟩) (by simp)).trans (show _ = some (.int .i64 S) by simp [go_sem]); have B1 : Hid (Below w.heap.size w w1) := Lib.hid (Below.trans (by (repeat' (first | (with_reducible exact Below.refl _ _) | (with_reducible assumption) | (with_reducible refine Below.alloc ?_ ?_ _) | (with_reducible refine Below.drew ?_) | (with_reducible refine Below.draws ?_ _) | (with_reducible refine Below.setCell ?_ ?_ _) | (refine Below.then ?_ (by with_reducible assumption)) | go_size))) (hb1.mono (by simp))); have z1 : w.heap.size < w1.heap.size := Nat.lt_of_lt_of_le (by simp) hb1.size; clear hb1))
              go_ret
              exact ⟨rfl, B2.out⟩
    · have h1' : decide ((20 : Int) < (ln : Int)) = true := by simp <;> omega
      have h1'' : decide (20 < ln) = true := by simp <;> omega
      rw [decide_eq_false h1]
      go_enter Tryz.func12, Tryz.ntmps12
      go_wp2_with (go_at_call 29; (with_reducible refine (HM.out _ (by (repeat' (first | (with_reducible exact Below.refl _ _) | (with_reducible assumption) | (with_reducible refine Below.alloc ?_ ?_ _) | (with_reducible refine Below.drew ?_) | (with_reducible refine Below.draws ?_ _) | (with_reducible refine Below.setCell ?_ ?_ _) | (refine Below.then ?_ (by with_reducible assumption)) | go_size)))).mono ?_); rintro e w9 ⟨rfl, rfl⟩)
      go_ret
      exact ⟨rfl, by (repeat' (first | (with_reducible exact Below.refl _ _) | (with_reducible assumption) | (with_reducible refine Below.alloc ?_ ?_ _) | (with_reducible refine Below.drew ?_) | (with_reducible refine Below.draws ?_ _) | (with_reducible refine Below.setCell ?_ ?_ _) | (refine Below.then ?_ (by with_reducible assumption)) | go_size))⟩
  · go_enter Tryz.func12, Tryz.ntmps12
    go_wp2_with (go_at_call 29; (with_reducible refine (HM.out _ (by (repeat' (first | (with_reducible exact Below.refl _ _) | (with_reducible assumption) | (with_reducible refine Below.alloc ?_ ?_ _) | (with_reducible refine Below.drew ?_) | (with_reducible refine Below.draws ?_ _) | (with_reducible refine Below.setCell ?_ ?_ _) | (refine Below.then ?_ (by with_reducible assumption)) | go_size)))).mono ?_); rintro e w9 ⟨rfl, rfl⟩)
    go_ret
    exact ⟨rfl, by (repeat' (first | (with_reducible exact Below.refl _ _) | (with_reducible assumption) | (with_reducible refine Below.alloc ?_ ?_ _) | (with_reducible refine Below.drew ?_) | (with_reducible refine Below.draws ?_ _) | (with_reducible refine Below.setCell ?_ ?_ _) | (refine Below.then ?_ (by with_reducible assumption)) | go_size))⟩
end Go.Proofs.YtmahagcghpoekaaGreat
