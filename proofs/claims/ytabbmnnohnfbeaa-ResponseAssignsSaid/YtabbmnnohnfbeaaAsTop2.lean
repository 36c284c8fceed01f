/- Assign of the program. The conditions: the tasks read as named. -/
import Derived.Test.YtabbmnnohnfbeaaAsTop
namespace Go.Proofs.Ytabbmnnohnfbeaa
open Go.RowKit
set_option linter.unusedSimpArgs false
set_option linter.unusedVariables false
def asgEnd (L : List Ta) (F S : Int) : Option (List Int) → List Int × Int
  | none => ([], 3)
  | some p => if accB (ordL L p) F S then ((ordL L p).map Ta.pri, 0) else ([], 3)
theorem asgR_ok {L : List Ta} {F S : Int} (h : okB L F S = true) : asgR L F S = asgEnd L F S (asgF L F S L.length (idxs L.length) []) := by
  unfold asgR
  rw [if_pos h]
  cases asgF L F S L.length (idxs L.length) [] <;> rfl
def cellLen (w : World) (b : Nat) : Nat := lenOf ((w.cell? ⟨b, 0, none⟩).getD (.bool false))
theorem FP.len {w : World} {fb free placed a2 n2 c2 a3 n3 c3} (h : FP w fb free placed a2 n2 c2 a3 n3 c3) : cellLen w fb = n2 := by unfold cellLen; rw [h.f0]; rfl
theorem delete_is {B b n c i : Nat} {xs : List Int} {x : Int} {w : World} (hn : n ≤ 1000) (hO : w.ownsRow B 3 1 (.slice (some ⟨b, 0, none⟩) n c) n (xs.flatMap enc1)) (hi : i < n) (hx : x = ((i + 1 : Nat) : Int)) :
    Calls Try.prog 100 #[.slice (some ⟨b, 0, none⟩) n c, .int .i64 i, .int .i64 x] w (DelP B w b (n - 1) c (cutL xs i)) := by subst hx; exact delete_any B b n c i xs w hn hO hi
theorem ai_is {g : Nat} {lb : Array Value} {p : Int → Bool} {a : Option Addr} {n c : Nat} {xs : List Int} {R : Int} {w : World} (hR : Rd w a n 1 (xs.map enc1)) (hf : PredIn g lb valI p xs w) (h : idxGo p 0 xs = R) :
    Calls Try.prog 93 #[.slice a n c, .func (.func g) #[] lb] w fun e w' => e = .returned (.int .i64 R) ∧ Below w.heap.size w w' := by subst h; exact ai_idx g lb p a n c xs w hR hf
set_option maxRecDepth 100000 in
set_option maxHeartbeats 8000000 in
theorem Assign_any (a : Option Addr) (n c : Nat) (F S : Int) (L : List Ta) (w : World) (hL : RdL w a n L) (hN : NilOk a n c) :
    Calls Try.prog 50 #[.slice a n c, .agg #[.int .i64 F, .int .i64 S]] w (OutIE w.heap.size w (asgR L F S).1 (asgR L F S).2) := by
  have hll := hL.length
  have HR := Lib.hid hL
  have HNN := Lib.hid hN
  have hE := E1
  cases hok : okB L F S
  · have HOK := Lib.hid hok
    have hR : asgR L F S = ([], 1) := by unfold asgR; rw [hok]; rfl
    rw [hR]
    clear hL hok hll hN hR
    go_enter Try.func50, Try.ntmps50
    go_wp2_with (go_at_call 52; (with_reducible refine (right25_is (HR.out.ext (by (repeat' (first | (with_reducible exact Below.refl _ _) | (with_reducible assumption) | (with_reducible refine Below.alloc ?_ ?_ _) | (with_reducible refine Below.drew ?_) | (with_reducible refine Below.draws ?_ _) | (with_reducible refine Below.setCell ?_ ?_ _) | (refine Below.then ?_ (by with_reducible assumption)) | go_size)))) HOK.out).mono ?_); rintro e w1 ⟨rfl, hb1⟩; have B1 := Lib.hid (Below.then (show Below w.heap.size w _ by (repeat' (first | (with_reducible exact Below.refl _ _) | (with_reducible assumption) | (with_reducible refine Below.alloc ?_ ?_ _) | (with_reducible refine Below.drew ?_) | (with_reducible refine Below.draws ?_ _) | (with_reducible refine Below.setCell ?_ ?_ _) | (refine Below.then ?_ (by with_reducible assumption)) | go_size))) hb1); clear hb1)
    go_ret2
    exact .none B1.out
  · have HOK := Lib.hid hok
    have hvs : validL L = true ∧ supB F S = true := by unfold okB at hok; simpa using hok
    have hV := valid_of hvs.1
    have hn5 : n ≤ 5 := by rw [← hll]; exact hV.r.len
    have HV := Lib.hid hV
    have HS := Lib.hid hvs.2
    obtain ⟨xr, er, hxr⟩ : ∃ x e, asgR L F S = (x, e) := ⟨_, _, rfl⟩
    obtain ⟨res, hres⟩ : ∃ r, asgF L F S n (idxs n) [] = r := ⟨_, rfl⟩
    have HRES := Lib.hid hres
    have hun : asgEnd L F S res = (xr, er) := by rw [← hxr, asgR_ok hok, hll, hres]
    have HUN := Lib.hid hun
    have HLL := Lib.hid hll
    rw [hxr]
    clear hL hok hll hN hvs hV hxr hres hun
    go_enter Try.func50, Try.ntmps50
    go_upto_region 3 with (go_at_call 52; (with_reducible refine (right25_is (HR.out.ext (by (repeat' (first | (with_reducible exact Below.refl _ _) | (with_reducible assumption) | (with_reducible refine Below.alloc ?_ ?_ _) | (with_reducible refine Below.drew ?_) | (with_reducible refine Below.draws ?_ _) | (with_reducible refine Below.setCell ?_ ?_ _) | (refine Below.then ?_ (by with_reducible assumption)) | go_size)))) HOK.out).mono ?_); rintro e w1 ⟨rfl, hb1⟩; have B1 := Lib.hid (Below.then (show Below w.heap.size w _ by (repeat' (first | (with_reducible exact Below.refl _ _) | (with_reducible assumption) | (with_reducible refine Below.alloc ?_ ?_ _) | (with_reducible refine Below.drew ?_) | (with_reducible refine Below.draws ?_ _) | (with_reducible refine Below.setCell ?_ ?_ _) | (refine Below.then ?_ (by with_reducible assumption)) | go_size))) hb1); have l0 := keep_c hb1 (b := w.heap.size) (o := 0) (v := .slice a n c) (by simp [go_sem]); have s0 := keep_c hb1 (b := w.heap.size + 1) (o := 0) (v := .int .i64 F) (by simp [go_sem]); have s1 := keep_c hb1 (b := w.heap.size + 1) (o := 1) (v := .int .i64 S) (by simp [go_sem]); clear hb1)
    have HR1 := Lib.hid (HR.out.ext B1.out)
    obtain ⟨lb, hlb⟩ : ∃ x, w.heap.size = x := ⟨_, rfl⟩
    obtain ⟨sb, hsb⟩ : ∃ x, lb + 1 = x := ⟨_, rfl⟩
    simp only [hlb, hsb] at l0 s0 s1 ⊢
    have HL0 := Lib.hid l0; have HS0 := Lib.hid s0; have HS1 := Lib.hid s1
    have hll1 := World.block_lt_of_cell? w1 _ l0
    have hls1 := World.block_lt_of_cell? w1 _ s0
    simp only [] at hll1 hls1
    have hlt1 : lb ≤ w1.heap.size := by omega
    have hlt2 : lb < w1.heap.size + 1 := by omega
    have HLB := Lib.hid hlb
    clear hlb hsb
    go_wp2_with fail
    obtain ⟨fb, hfb⟩ : ∃ x, w1.heap.size = x := ⟨_, rfl⟩
    obtain ⟨pb, hpb⟩ : ∃ x, fb + 1 = x := ⟨_, rfl⟩
    have hst : FP ((w1.alloc (.cells #[.slice none 0 0] 32)).alloc (.cells #[.slice none 0 0] 32)) fb [] [] none 0 0 none 0 0 := by
      subst hfb
      exact ⟨by simp, by simp [go_sem], by simp [go_sem], by simp [go_sem], by simp [go_sem], World.ownsRow_nil _ _ _ _, World.ownsRow_nil _ _ _ _, fun x hx => by simp [Value.ownBlock] at hx⟩
    have HST := Lib.hid hst
    have HFB := Lib.hid hfb
    simp only [hfb, hpb] at hll1 hls1 ⊢
    clear hst hlt1 hlt2
    go_loopw [20] (fun i wr => ∃ (k : Nat) (a2 : Option Addr) (c2 : Nat), k ≤ n ∧ i = .int .i64 k ∧ FP wr fb ((idxs n).take k) [] a2 k c2 none 0 0 ∧ Below fb w1 wr) (fun i _ => n - (intOf i).toNat)
    case atStart => exact ⟨0, none, 0, Nat.zero_le _, rfl, HST.out, by rw [← HFB.out]; (repeat' (first | (with_reducible exact Below.refl _ _) | (with_reducible assumption) | (with_reducible refine Below.alloc ?_ ?_ _) | (with_reducible refine Below.drew ?_) | (with_reducible refine Below.draws ?_ _) | (with_reducible refine Below.setCell ?_ ?_ _) | (refine Below.then ?_ (by with_reducible assumption)) | go_size))⟩
    case round =>
      obtain ⟨k, a2, c2, hk, rfl, hFP, hB⟩ := hrel
      have HF := Lib.hid hFP; have HB := Lib.hid hB
      have hlf := hFP.lt
      have f0 := hFP.f0; have ff := hFP.ff
      clear hFP hB HST
      by_cases hlt : k < n
      · go_wp2_with (at_builtin; refine wpList_pushM (N := wr.heap.size) rfl rfl _ _ _ rfl hE rfl HF.out.fo rfl rfl (by intro u hu; simp at hu; subst hu; rfl) (by omega) (by decide) (by omega) ?_; intro a6 c6 w6 hown6 hg6; have hFX := (HF.out.ext (Below.alloc (Below.refl _ _) (Nat.le_refl _) (.cells #[.int .i64 k] 3))).free' (free' := (idxs n).take (k + 1)) (by rw [List.take_add_one, idxs_get hlt, List.flatMap_append]; exact hown6) hg6 (fun x _ e => by simp [Value.ownBlock] at e); have HFX := Lib.hid hFX; have hB6 : Below (fb + 2) wr w6 := ((Below.refl (fb + 2) wr).alloc (by omega) _).grown hg6 (by simp; omega) (fun j hj => (own_low HF.out.fo j hj).1); have HB6 := Lib.hid hB6; have g0 := (hB6.cell (p := ⟨fb, 0, none⟩) (by simp only []; omega)).trans f0; have gf := (hB6.frozen (p := ⟨fb, 0, none⟩) (by simp only []; omega)).trans ff; clear hown6 hg6 hFX hB6)
        go_roundw
        case rel => exact ⟨k + 1, a6, c6, by omega, by go_num, HFX.out, (HB.out.trans (HB6.out.mono (by omega))).setCell (Nat.le_refl _) _⟩
        case measure => simp [intOf]; omega
      · obtain rfl : k = n := by omega
        have HF0 : Hid (FP wr fb (idxs k) [] a2 k c2 none 0 0) := Lib.hid (by
          have := HF.out
          rw [List.take_of_length_le (by rw [idxs_len]; exact Nat.le_refl _)] at this
          exact this)
        clear f0 ff hlf HF
        go_wp2_with fail
        go_loopw [] (fun wr => ∃ (free placed : List Int) (a2 : Option Addr) (n2 c2 : Nat) (a3 : Option Addr) (n3 c3 : Nat), FP wr fb free placed a2 n2 c2 a3 n3 c3 ∧ FreeOk k free placed ∧ asgF L F S free.length free placed = res ∧ Below fb w1 wr) (fun wr => cellLen wr fb)
        case atStart => exact ⟨idxs k, [], a2, k, c2, none, 0, 0, HF0.out, FreeOk.start k, by rw [idxs_len]; exact HRES.out, HB.out⟩
        case round =>
          obtain ⟨free, placed, a2, n2, c2, a3, n3, c3, hFP, hFO, he, hB2⟩ := hrel
          have HF := Lib.hid hFP; have HO := Lib.hid hFO; have HE := Lib.hid he; have HB2 := Lib.hid hB2
          have hB2' : Below w1.heap.size w1 wr := by rw [HFB.out]; exact hB2
          have l1 := keep_c hB2' HL0.out; have s1 := keep_c hB2' HS0.out; have s2 := keep_c hB2' HS1.out
          have HBW := Lib.hid (Below.then B1.out hB2')
          have hln : free.length = n2 := (ownsI_rd hFP.fo).length
          have hln3 : placed.length = n3 := (ownsI_rd hFP.po).length
          have htot : n2 + n3 = k := by have := hFO.perm.length_eq; simp [idxs_len] at this; omega
          have hAC : AsC L F S a k c fb lb (fb + 1) sb free placed wr := ⟨l1, s1, s2, ⟨a2, n2, c2, hFP.f0, ownsI_rd hFP.fo, owns_nil hFP.fo⟩, ⟨a3, n3, c3, hFP.p0, ownsI_rd hFP.po, owns_nil hFP.po⟩, HR1.out.ext hB2'⟩
          have HAC := Lib.hid hAC
          have hlt := hFP.lt
          have f0 := hFP.f0
          have hLEN := hFP.len
          rw [hpb] at hAC
          have HPI := Lib.hid (asg_pred HV.out HS.out hFO HNN.out hAC)
          have HRD := Lib.hid (ownsI_rd hFP.fo)
          have HLEN := Lib.hid hLEN
          clear hFP hFO he hB2 hB2' hAC hLEN HF0
          by_cases h0 : 0 < n2
          · have h0' : decide ((0 : Int) < (n2 : Int)) = true := by simp; omega
            rcases idxGo_find (p := fun k => meetB (ordL L (tryO free k placed)) F S k) free 0 with ⟨hi, hfi⟩ | ⟨i, kx, hi, hgi, hfi⟩
            · have HI := Lib.hid hi
              have hE2 := HE.out
              rw [show free.length = (n2 - 1) + 1 by omega, asgF, hfi] at hE2
              simp only [] at hE2
              subst hE2
              have hUN := HUN.out
              simp [asgEnd] at hUN
              obtain ⟨rfl, rfl⟩ := hUN
              go_wp2_with (go_at_call 93; (with_reducible refine (ai_is HRD.out HPI.out HI.out).mono ?_); rintro e w5 ⟨rfl, hb5⟩; have B5 := Lib.hid hb5; clear hb5)
              go_ret2
              exact .none (Below.then HBW.out B5.out)
            · rw [Nat.zero_add] at hi
              have HI := Lib.hid hi
              have HGI := Lib.hid hgi
              have hin : i < n2 := by rw [← hln]; exact (List.getElem?_eq_some_iff.1 hgi).1
              have hmem := List.mem_of_getElem? hgi
              have hE2 := HE.out
              rw [show free.length = (n2 - 1) + 1 by omega, asgF, hfi] at hE2
              have HE2 := Lib.hid hE2
              have hneg : decide ((i : Int) < 0) = false := by simp
              clear hi hfi hE2 HE
              go_upto_region 13 with (go_at_call 93; (with_reducible refine (ai_is HRD.out HPI.out HI.out).mono ?_); rintro e w5 ⟨rfl, hb5⟩; have B5 := Lib.hid hb5; clear hb5)
              have hF5 := HF.out.ext B5.out
              have HF5 := Lib.hid hF5
              have g0 := hF5.f0; have g1 := hF5.p0; have g2 := hF5.pf; have hlt5 := hF5.lt
              obtain ⟨b, rfl, hb1, hb2⟩ := owns_addr hF5.fo h0
              obtain ⟨kx', hkx, hck, _, _⟩ := ownsI_at hF5.fo i hin
              obtain rfl : kx' = kx := by rw [HGI.out] at hkx; simpa using hkx.symm
              have HPR := Lib.hid (ownsI_rd hF5.po); have HPN := Lib.hid (owns_nil hF5.po)
              rw [hpb] at g1 g2 hlt5
              have hlt6 : fb < w5.heap.size := by omega
              have hpf : fb + 1 = pb := hpb
              clear hF5 hkx
              go_cut [] (fun wx => ∃ (a4 : Option Addr) (c4 : Nat), FP wx fb free (kx' :: placed) (some ⟨b, 0, none⟩) n2 c2 a4 (1 + n3) c4 ∧ Below fb w5 wx)
              case first =>
                go_region_law ((refine step_app (by rfl) _ _ _ (by rfl) hE (B := w5.heap.size) (n := 1) (v := .slice (some ⟨w5.heap.size, 0, none⟩) 1 1) (xs := [.int .i64 kx']) (news := placed.flatMap enc1) (by rfl) (by first | exact owns_one _ _ _ | exact owns_ext (owns_one _ _ _) (Below.refl _ _).drew) (by rfl) (by rw [flat_enc1, List.length_map, hln3, Nat.mul_one]) (by exact News.rd enc1_len (by decide) (HPR.out.ext (by (repeat' (first | (with_reducible exact Below.refl _ _) | (with_reducible assumption) | (with_reducible refine Below.alloc ?_ ?_ _) | (with_reducible refine Below.drew ?_) | (with_reducible refine Below.draws ?_ _) | (with_reducible refine Below.setCell ?_ ?_ _) | (refine Below.then ?_ (by with_reducible assumption)) | go_size)))) HPN.out) (by intro u hu; obtain ⟨y, _, hy⟩ := List.mem_flatMap.1 hu; exact enc1_one y u hy) (by omega) (by decide) (by simp) ?_; intro a4 c4 w6 hown6 hg6; have hB6 : Below w5.heap.size w5 w6 := Below.grown (show Below w5.heap.size w5 _ by (repeat' (first | (with_reducible exact Below.refl _ _) | (with_reducible assumption) | (with_reducible refine Below.alloc ?_ ?_ _) | (with_reducible refine Below.drew ?_) | (with_reducible refine Below.draws ?_ _) | (with_reducible refine Below.setCell ?_ ?_ _) | (refine Below.then ?_ (by with_reducible assumption)) | go_size))) hg6 (by simp) (fun j hj => by simp [Value.ownBlock] at hj; omega); have HX : Hid (FP (w6.setCell ⟨pb, 0, none⟩ (.slice a4 (1 + n3) c4)) fb free (kx' :: placed) (some ⟨b, 0, none⟩) n2 c2 a4 (1 + n3) c4) := Lib.hid (by rw [← hpf]; exact FP.placed' HF5.out hB6 hown6); have k1 := (hB6.cell (p := ⟨pb, 0, none⟩) hlt5).trans g1; have k2 := (hB6.frozen (p := ⟨pb, 0, none⟩) hlt5).trans g2; have HB6 := Lib.hid hB6; clear hown6 hg6 hB6))
                all_goals (go_wp2_with fail; go_meet; exact ⟨a4, c4, HX.out, (HB6.out.mono (by omega)).setCell (by simp only []; omega) _⟩)
              case rest =>
                obtain ⟨a4, c4, hFc, hBc⟩ := hcut
                have HFc := Lib.hid hFc; have HBc := Lib.hid hBc
                have q0 := hFc.f0; have q1 := hFc.ff; have hltc := hFc.lt
                have hwri : IntKind.i64.wrap ((i : Int) + 1) = (i : Int) + 1 := IntWalk.i64_in _ (by omega)
                have hx2 : fb < wc.heap.size := by omega
                clear hFc hBc g0 g1 g2 hck f0
                go_wp2_with (go_at_call 100; (with_reducible refine (delete_is (by omega) HFc.out.fo hin (by omega)).mono ?_); rintro e w7 ⟨rfl, hown7, hg7⟩; have hB7 : Below (fb + 2) wc w7 := (Below.refl _ wc).grown hg7 (by omega) (fun j hj => by simp at hj; omega); have k0 := (hB7.cell (p := ⟨fb, 0, none⟩) (by simp only []; omega)).trans q0; have k1 := (hB7.frozen (p := ⟨fb, 0, none⟩) (by simp only []; omega)).trans q1; have HX := Lib.hid (HFc.out.free' hown7 hg7 (fun x hx => HFc.out.ap x hx)); have HB7 := Lib.hid hB7; clear hown7 hg7 hB7)
                go_roundw
                case rel =>
                  have hcf : cutL free i = free.filter (fun n => !(n == kx')) := cutL_filter HO.out.nodup.1 HGI.out
                  refine ⟨_, _, _, _, _, _, _, _, HX.out, by rw [hcf]; exact HO.out.step (List.mem_of_getElem? HGI.out), ?_, ?_⟩
                  · rw [cutL_len (by rw [hln]; exact hin), hcf, hln]; exact HE2.out
                  · exact ((((HB2.out.trans (B5.out.mono (by omega))).trans HBc.out)).trans (HB7.out.mono (by omega))).setCell (Nat.le_refl _) _
                case measure =>
                  rw [HX.out.len, HLEN.out]; omega
          · obtain rfl : n2 = 0 := by omega
            have h0' : decide ((0 : Int) < ((0 : Nat) : Int)) = false := by simp
            have hE2 := HE.out
            obtain rfl : free = [] := List.length_eq_zero_iff.1 hln
            simp only [List.length_nil, asgF] at hE2
            subst hE2
            have hord : IsOrd L.length placed := ⟨by rw [HLL.out]; simpa using HO.out.perm⟩
            have HORD := Lib.hid hord
            have HRG : Hid (∀ x ∈ placed, 0 ≤ x ∧ x < k) := Lib.hid (fun x hx => by have := hord.mem.1 hx; rw [HLL.out] at this; exact this)
            have HPN : Hid (∀ t ∈ L, t.pcs.length ≤ 1000) := Lib.hid (fun t ht => by have := (HV.out.r.pcs t ht).2; omega)
            have HVO : Hid (ValidT (ordL L placed)) := Lib.hid (valid_of (ordL_valid HV.out hord))
            obtain ⟨ac, hac⟩ : ∃ b, accB (ordL L placed) F S = b := ⟨_, rfl⟩
            have HAC' := Lib.hid hac
            have hUN := HUN.out
            rw [asgEnd, hac] at hUN
            have HP := Lib.hid (ownsI_rd HF.out.po)
            have g1 := HF.out.p0
            rw [hpb] at g1
            clear hord hac
            cases ac
            · simp at hUN
              obtain ⟨rfl, rfl⟩ := hUN
              go_wp2_with (first
                | (go_at_call 98; (with_reducible refine (ordered_M _ _ _ L _ _ _ placed hn5 HPN.out _ HAC.out.rd HNN.out HP.out (by omega) HRG.out).mono ?_); rintro e w5 ⟨a5, c5, g5, rfl, hm5, hg5, hb5⟩; have HM5 : Hid (RdL w5 a5 k (ordL L placed)) := Lib.hid (by rw [← hg5]; exact hm5.rdL); have B5 := Lib.hid hb5; have t1 := keep_c hb5 s1; have t2 := keep_c hb5 s2; clear hm5 hg5 hb5)
                | (go_at_call 53; (with_reducible refine (acc_is HM5.out HVO.out HS.out HAC'.out).mono ?_); rintro e w6 ⟨rfl, hb6⟩; have B6 := Lib.hid hb6; clear hb6))
              go_ret2
              exact .none (Below.then (Below.then HBW.out B5.out) B6.out)
            · simp at hUN
              obtain ⟨hux, rfl⟩ := hUN
              have HUX := Lib.hid hux
              clear hux
              go_wp2_with (first
                | (go_at_call 98; (with_reducible refine (ordered_M _ _ _ L _ _ _ placed hn5 HPN.out _ HAC.out.rd HNN.out HP.out (by omega) HRG.out).mono ?_); rintro e w5 ⟨a5, c5, g5, rfl, hm5, hg5, hb5⟩; have HM5 : Hid (RdL w5 a5 k (ordL L placed)) := Lib.hid (by rw [← hg5]; exact hm5.rdL); have B5 := Lib.hid hb5; have t1 := keep_c hb5 s1; have t2 := keep_c hb5 s2; clear hm5 hg5 hb5)
                | (go_at_call 53; (with_reducible refine (acc_is HM5.out HVO.out HS.out HAC'.out).mono ?_); rintro e w6 ⟨rfl, hb6⟩; have B6 := Lib.hid hb6; clear hb6))
              have HM6 := Lib.hid (HM5.out.ext B6.out)
              have HBW6 := Lib.hid (Below.then (Below.then HBW.out B5.out) B6.out)
              go_loopw [11, 57] (fun v i wr => ∃ (j : Nat) (a' : Option Addr) (c' : Nat), j ≤ k ∧ v = .slice a' j c' ∧ i = .int .i64 j ∧ wr.ownsRow w6.heap.size 3 1 (.slice a' j c') j ((((ordL L placed).take j).map Ta.pri).flatMap enc1) ∧ Below w6.heap.size w6 wr) (fun _ i _ => k - (intOf i).toNat)
              case atStart => exact ⟨0, none, 0, Nat.zero_le _, rfl, rfl, World.ownsRow_nil _ _ _ _, Below.refl _ _⟩
              case round =>
                obtain ⟨j, a', c', hj, rfl, rfl, hO9, hB9⟩ := hrel
                have HO9 := Lib.hid hO9; have HB9 := Lib.hid hB9
                have hz9 := hB9.size
                clear hO9 hB9
                by_cases hjk : j < k
                · obtain ⟨t, b8, off, pa, pn, pc, rfl, hb8, c0, c1, c2', c3', c4, c5, hp, _, hg, HD⟩ := (HM6.out.ext HB9.out).at_ j hjk
                  have HTK := Lib.hid (take_of_drop HD.out)
                  have n1 : ¬ b8 = wr.heap.size := by omega
                  clear hp hg HD
                  obtain ⟨W9, hW9⟩ : ∃ W9, wr.alloc (.cells #[.int .i64 t.pri, .int .i64 t.dl, .int .i64 t.first, .int .i64 t.gap, .int .i64 t.jit, .slice pa pn pc] 52) = W9 := ⟨_, rfl⟩
                  have hbw9 : Below wr.heap.size wr W9 := by rw [← hW9]; (repeat' (first | (with_reducible exact Below.refl _ _) | (with_reducible assumption) | (with_reducible refine Below.alloc ?_ ?_ _) | (with_reducible refine Below.drew ?_) | (with_reducible refine Below.draws ?_ _) | (with_reducible refine Below.setCell ?_ ?_ _) | (refine Below.then ?_ (by with_reducible assumption)) | go_size))
                  have HBW9 := Lib.hid hbw9
                  have hzw9 := hbw9.size
                  have HO10 := Lib.hid (owns_ext HO9.out hbw9)
                  have z0 : W9.cell? ⟨wr.heap.size, 0, none⟩ = some (.int .i64 t.pri) := by rw [← hW9]; simp [go_sem]
                  have hlz := World.block_lt_of_cell? W9 _ z0
                  simp only [] at hlz
                  clear hbw9
                  go_wp2_with (at_builtin; refine wpList_push (B := w6.heap.size) rfl _ _ _ rfl hE rfl HO10.out rfl rfl (by intro u hu; simp at hu; subst hu; rfl) (by omega) (by decide) (by omega) ?_; intro a10 c10 w10 hown10 hb10; have HO11 := Lib.hid hown10; have B10 := Lib.hid hb10; clear hown10 hb10)
                  go_roundw
                  case rel => exact ⟨j + 1, a10, c10, by omega, rfl, by go_num, by rw [HTK.out, List.map_append, List.flatMap_append]; exact HO11.out, (HB9.out.trans (HBW9.out.mono hz9)).trans B10.out⟩
                  case measure => simp [intOf]; omega
                · obtain rfl : j = k := by omega
                  have hO := HO9.out
                  rw [List.take_of_length_le (by rw [ordL_len, HLL.out]; exact Nat.le_refl _), HUX.out] at hO
                  have HO12 := Lib.hid hO
                  clear hO
                  go_wp2_with fail
                  go_ret2
                  exact ⟨_, _, _, rfl, owns_mono HO12.out HBW6.out.size, Below.then HBW6.out HB9.out⟩
end Go.Proofs.Ytabbmnnohnfbeaa
