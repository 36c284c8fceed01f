/- Requests in memory; the closures of serve. The conditions: the requests read as named. -/
import Derived.Test.YtgldgomjlcojaaaSvPure
import Derived.Test.YtgldgomjlcojaaaStAll
import Derived.Test.YtgldgomjlcojaaaBsFar
namespace Go.Proofs.Ytgldgomjlcojaaa
open Go.RowKit
set_option linter.unusedSimpArgs false
set_option linter.unusedVariables false
def encQ (r : Rq) : List Value := [.int .i64 r.m, .int .i64 r.o, .int .i64 r.k]
theorem encQ_len (r : Rq) : (encQ r).length = 3 := rfl
abbrev valQ (r : Rq) : Value := .agg #[.int .i64 r.m, .int .i64 r.o, .int .i64 r.k]
def okQ (r : Rq) : Bool := okR r.m r.o r.k
theorem rq_idx (g : Nat) (lb : Array Value) (p : Rq → Bool) (a : Option Addr) (n c : Nat) (xs : List Rq) (w : World) (hR : Rd w a n 3 (xs.map encQ)) (hf : PredIn g lb valQ p xs w) :
    Calls Try.prog 76 #[.slice a n c, .func (.func g) #[] lb] w fun e w' => e = .returned (.int .i64 (idxGo p 0 xs)) ∧ Below w.heap.size w w' := by
  have HL := Lib.hid hR.length
  have hs := hR.small
  have HR := Lib.hid hR; clear hR
  have eg := hf.eg
  have HF := Lib.hid hf.gives; clear hf
  generalize hg : idxGo p 0 xs = R
  have HG := Lib.hid hg; clear hg
  go_enter Try.func76, Try.ntmps76
  go_wp2
  go_loopw [8] (fun i wr => ∃ k : Nat, k ≤ n ∧ i = .int .i64 k ∧ idxGo p k (xs.drop k) = R ∧ Below w.heap.size w wr) (fun i _ => n - (intOf i).toNat)
  case atStart => exact ⟨0, Nat.zero_le _, rfl, HG.out, Below.refl _ _⟩
  case round =>
    obtain ⟨k, hk, rfl, he, hB⟩ := hrel
    have HE := Lib.hid he; clear he
    by_cases hlt : k < n
    · obtain ⟨x, b, off, rfl, hb, hc, hx, _, HD⟩ := (HR.out.ext hB).nextK k hlt
      have h0 := hc 0 (by omega)
      have h1 := hc 1 (by omega)
      have h2 := hc 2 (by omega)
      clear hc
      simp [encQ] at h0 h1 h2
      have hcall := HF.out x hx wr hB
      have HB := Lib.hid hB; clear hB
      have HE2 : Hid ((if p x = true then (k : Int) else idxGo p (k + 1) (xs.drop (k + 1))) = R) := by have := HE.out; rw [HD.out] at this; exact this
      cases hq : p x
      · rw [hq] at hcall HE2
        go_wp2_with (go_at_fn g; refine hcall.mono ?_; rintro e w1 ⟨rfl, hb1⟩)
        go_roundw
        case rel => exact ⟨k + 1, by omega, by go_num, by simpa using HE2.out, HB.out.trans (hb1.mono HB.out.size)⟩
        case measure => simp [intOf]; omega
      · rw [hq] at hcall HE2
        have : R = k := by simpa using HE2.out.symm
        subst this
        go_wp2_with (go_at_fn g; refine hcall.mono ?_; rintro e w1 ⟨rfl, hb1⟩)
        go_ret
        exact ⟨rfl, HB.out.trans (hb1.mono HB.out.size)⟩
    · have : R = -1 := by rw [← HE.out, drop_end HL.out (by omega)]; rfl
      subst this
      go_wp2
      go_ret
      exact ⟨rfl, hB⟩
theorem rq_con (g : Nat) (lb : Array Value) (p : Rq → Bool) (a : Option Addr) (n c : Nat) (xs : List Rq) (w : World) (hR : Rd w a n 3 (xs.map encQ)) (hf : PredIn g lb valQ p xs w) :
    Calls Try.prog 67 #[.slice a n c, .func (.func g) #[] lb] w fun e w' => e = .returned (.bool (xs.any p)) ∧ Below w.heap.size w w' := by
  have HR := Lib.hid hR; clear hR
  have HF := Lib.hid hf; clear hf
  go_enter Try.func67, Try.ntmps67
  go_wp2_with (go_at_call 76; refine (rq_idx _ _ _ _ _ _ _ _ HR.out HF.out).mono ?_; rintro e w1 ⟨rfl, hb1⟩)
  go_ret
  exact ⟨ret_bool (idxGo_any p xs 0), by (repeat' (first | (with_reducible exact Below.refl _ _) | (with_reducible assumption) | (with_reducible refine Below.alloc ?_ ?_ _) | (with_reducible refine Below.drew ?_) | (with_reducible refine Below.draws ?_ _) | (with_reducible refine Below.setCell ?_ ?_ _) | (refine Below.then ?_ (by with_reducible assumption)) | go_size))⟩

theorem Rd.rq {w : World} {a : Option Addr} {n : Nat} {q : List Rq} (h : Rd w a n 3 (q.map encQ)) (k : Nat) (hk : k < n) : ∃ (r : Rq) (b off : Nat), a = some ⟨b, off, none⟩ ∧ b < w.heap.size ∧ q[k]? = some r ∧
    w.cell? ⟨b, off + k * 3, none⟩ = some (.int .i64 r.m) ∧ w.cell? ⟨b, off + k * 3 + 1, none⟩ = some (.int .i64 r.o) ∧ w.cell? ⟨b, off + k * 3 + 2, none⟩ = some (.int .i64 r.k) ∧ Hid (q.drop k = r :: q.drop (k + 1)) := by
  obtain ⟨x, b, off, rfl, hb, hc, _, hg, HD⟩ := h.nextK k hk
  have h0 := hc 0 (by omega)
  have h1 := hc 1 (by omega)
  have h2 := hc 2 (by omega)
  clear hc
  simp [encQ] at h0 h1 h2
  exact ⟨x, b, off, rfl, hb, hg, h0, h1, h2, HD⟩
/-- the first test: a request that is none -/
theorem sv1_any (r : Rq) (w : World) : Calls Try.prog 68 #[valQ r] w fun e w' => e = .returned (.bool (!okQ r)) ∧ Below w.heap.size w w' := by
  obtain ⟨m, o, k⟩ := r
  show Calls Try.prog 68 #[.agg #[.int .i64 m, .int .i64 o, .int .i64 k]] w fun e w' => e = .returned (.bool (!okR m o k)) ∧ Below w.heap.size w w'
  obtain ⟨b, hb⟩ : ∃ b, okR m o k = b := ⟨_, rfl⟩
  rw [hb]
  have HB := Lib.hid hb
  clear hb
  go_enter Try.func68, Try.ntmps68
  go_wp2_with (go_at_call 44; (with_reducible refine (isRequest_val HB.out).mono ?_); rintro e w1 ⟨rfl, hb1⟩)
  go_ret
  exact ⟨rfl, by (repeat' (first | (with_reducible exact Below.refl _ _) | (with_reducible assumption) | (with_reducible refine Below.alloc ?_ ?_ _) | (with_reducible refine Below.drew ?_) | (with_reducible refine Below.draws ?_ _) | (with_reducible refine Below.setCell ?_ ?_ _) | (refine Below.then ?_ (by with_reducible assumption)) | go_size))⟩
/-- the second test: a request of a master without slots -/
theorem sv2_any (r : Rq) (w : World) (p : Nat) (h : Nat → Hdr) (T : List Int) (hm : 0 ≤ r.m ∧ r.m ≤ 3) (hW : WhC p w h) (hR : RdW w h T) : Calls Try.prog 69 #[valQ r, .pointer (some ⟨p, 0, none⟩)] w fun e w' => e = .returned (.bool (decide (cnt T r.m = 0))) ∧ Below w.heap.size w w' := by
  obtain ⟨m, o, k⟩ := r
  obtain ⟨mm, rfl⟩ := Int.eq_ofNat_of_zero_le hm.1
  have hm4 : mm < 4 := by have := hm.2; simp only [] at this; omega
  have i0 : (0 : Int) ≤ (mm : Int) := by omega
  have i4 : (mm : Int) < 4 := by omega
  have xm := hW.row hm4
  have hcn := hR.cnt hm4
  have hpl := hW.lt
  have e : decide (cnt T ((mm : Nat) : Int) = 0) = ((((h (mm + 1)).n : Nat) : Int) == 0) := by rw [← hcn, Bool.eq_iff_iff]; simp
  show Calls Try.prog 69 #[.agg #[.int .i64 (mm : Int), .int .i64 o, .int .i64 k], .pointer (some ⟨p, 0, none⟩)] w fun e w' => e = .returned (.bool (decide (cnt T (mm : Int) = 0))) ∧ Below w.heap.size w w'
  rw [e]
  clear e hcn hm hW hR
  go_enter Try.func69, Try.ntmps69
  go_wp2
  go_ret
  exact ⟨rfl, by (repeat' (first | (with_reducible exact Below.refl _ _) | (with_reducible assumption) | (with_reducible refine Below.alloc ?_ ?_ _) | (with_reducible refine Below.drew ?_) | (with_reducible refine Below.draws ?_ _) | (with_reducible refine Below.setCell ?_ ?_ _) | (refine Below.then ?_ (by with_reducible assumption)) | go_size))⟩
/-- the order's comparison -/
def cfQ (q : List Rq) (a b : Int) : Int := cmpI (rqAt q a).o (rqAt q b).o
theorem cfQ_lt (q : List Rq) : ltOf (cfQ q) = ltQ q := by
  funext a b
  unfold ltOf cfQ ltQ
  exact cmpI_lt _ _
theorem sv3_any (q : List Rq) (a : Option Addr) (n c p : Nat) (x y : Int) (hx : 0 ≤ x ∧ x < n) (hy : 0 ≤ y ∧ y < n) (w : World) (hp : p < w.heap.size) (hc : w.cell? ⟨p, 0, none⟩ = some (.slice a n c)) (hR : Rd w a n 3 (q.map encQ)) :
    Calls Try.prog 71 #[.int .i64 x, .int .i64 y, .pointer (some ⟨p, 0, none⟩)] w fun e w' => e = .returned (.int .i64 (cfQ q x y)) ∧ Below w.heap.size w w' := by
  obtain ⟨i, rfl⟩ := Int.eq_ofNat_of_zero_le hx.1
  obtain ⟨j, rfl⟩ := Int.eq_ofNat_of_zero_le hy.1
  have hs := hR.small
  have hi : i < n := by omega
  have hj : j < n := by omega
  obtain ⟨r, b, off, rfl, hb, h1, c0, c1, c2, _⟩ := hR.rq i hi
  obtain ⟨s, b', off', e, hb', h2, d0, d1, d2, _⟩ := hR.rq j hj
  simp at e
  obtain ⟨rfl, rfl⟩ := e
  have e : cfQ q i j = cmpI r.o s.o := by unfold cfQ; rw [rqAt_of h1, rqAt_of h2]
  rw [e]
  clear hR e h1 h2 hx hy c0 c2 d0 d2
  go_enter Try.func71, Try.ntmps71
  go_wp2_with (refine wp_region_later_lit (by kernel_rfl) (by kernel_rfl) ?_; (repeat (go_big_quiet_step ((go_at_call 72; exact later_same (compare_any r.o s.o _))))); refine wpQuiet_nil ?_; intro w1 hb1; obtain ⟨hc1, hf1, hz1, hr1⟩ := bfacts hb1; (try simp only [World.size_alloc, World.size_setCell, World.size_drew, World.size_drewN] at hz1 hr1); (try have hw0 : w.heap.size < w1.heap.size := by omega); (try have hw1 : w.heap.size + 1 < w1.heap.size := by omega); (try have hw2 : w.heap.size + 1 + 1 < w1.heap.size := by omega))
  go_ret
  exact ⟨rfl, by (repeat' (first | (with_reducible exact Below.refl _ _) | (with_reducible assumption) | (with_reducible refine Below.alloc ?_ ?_ _) | (with_reducible refine Below.drew ?_) | (with_reducible refine Below.draws ?_ _) | (with_reducible refine Below.setCell ?_ ?_ _) | (refine Below.then ?_ (by with_reducible assumption)) | go_size))⟩
end Go.Proofs.Ytgldgomjlcojaaa
