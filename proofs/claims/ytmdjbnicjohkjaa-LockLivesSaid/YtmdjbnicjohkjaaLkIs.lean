/- The contracts of the graphs at values that are named, and what a turned graph keeps. The conditions: the graph reads as named. -/
import Derived.Test.YtmdjbnicjohkjaaLkSane
import Derived.Test.YtmdjbnicjohkjaaLkTo
import Derived.Test.YtmdjbnicjohkjaaLkLarge
namespace Go.Proofs.Ytmdjbnicjohkjaa
open Go.RowKit
set_option linter.unusedSimpArgs false
set_option linter.unusedVariables false
section
variable {a : Option Addr} {n c : Nat} {g : List ThV} {w : World} {G : List Th}
theorem Chain_is {R : List Int × Int} {t : Int} (hG : RdG w a n g) (hg : g.map ThV.th = G) (h : chainR G t = R) : Calls Try.prog 16 #[.slice a n c, .int .i64 t] w (OutIE w.heap.size w R.1 R.2) := by subst hg; subst h; exact Chain_any a n c g t w hG
theorem rChain_is {R : List Int × Int} {t : Int} (hG : RdG w a n g) (hg : g.map ThV.th = G) (h : chainR G t = R) : Calls Try.prog 17 #[.slice a n c, .int .i64 t] w (OutIE w.heap.size w R.1 R.2) := by subst hg; subst h; exact rChain_any a n c g t w hG
theorem Circle_is {R : List Int × Int} (hG : RdG w a n g) (hg : g.map ThV.th = G) (h : circleR G = R) : Calls Try.prog 18 #[.slice a n c] w (OutIE w.heap.size w R.1 R.2) := by subst hg; subst h; exact Circle_any a n c g w hG
theorem rCircle_is {R : List Int × Int} (hG : RdG w a n g) (hg : g.map ThV.th = G) (h : circleR G = R) : Calls Try.prog 19 #[.slice a n c] w (OutIE w.heap.size w R.1 R.2) := by subst hg; subst h; exact rCircle_any a n c g w hG
theorem Owner_is {R : Int × Int} {l : Int} (hG : RdG w a n g) (hg : g.map ThV.th = G) (h : ownerR G l = R) : Calls Try.prog 20 #[.slice a n c, .int .i64 l] w fun e w' => e = rII R.1 R.2 ∧ Below w.heap.size w w' := by subst hg; subst h; exact Owner_any a n c g l w hG
theorem rOwner_is {R : Int × Int} {l : Int} (hG : RdG w a n g) (hg : g.map ThV.th = G) (h : ownerR G l = R) : Calls Try.prog 21 #[.slice a n c, .int .i64 l] w fun e w' => e = rII R.1 R.2 ∧ Below w.heap.size w w' := by subst hg; subst h; exact rOwner_any a n c g l w hG
theorem Valid_is {R : Bool} (hG : RdG w a n g) (hg : g.map ThV.th = G) (h : validG G = R) : Calls Try.prog 22 #[.slice a n c] w fun e w' => e = .returned (.bool R) ∧ Below w.heap.size w w' := by subst hg; subst h; exact valid_any a n c g w hG
theorem rValid_is {R : Bool} (hG : RdG w a n g) (hg : g.map ThV.th = G) (h : validG G = R) : Calls Try.prog 23 #[.slice a n c] w fun e w' => e = .returned (.bool R) ∧ Below w.heap.size w w' := by subst hg; subst h; exact rvalid_any a n c g w hG
/-- a graph with the same threads is as small -/
theorem small_of {a' : Option Addr} {n' : Nat} {g' : List ThV} {w' : World} {B : Nat} (hG : RdG w a n g) (hG' : RdG w' a' n' g') (h : g'.map ThV.th = g.map ThV.th) (hs : ∀ t ∈ g, t.n ≤ B) : n' = n ∧ ∀ t ∈ g', t.n ≤ B := by
  refine ⟨by rw [← hG.length, ← hG'.length]; simpa using congrArg List.length h, fun t ht => ?_⟩
  have h1 : t.th ∈ g.map ThV.th := by rw [← h]; exact List.mem_map_of_mem ht
  obtain ⟨u, hu, e⟩ := List.mem_map.1 h1
  have h2 := (hG'.ok t ht).1.length
  have h3 := (hG.ok u hu).1.length
  have h4 : u.holds = t.holds := congrArg Th.holds e
  have := hs u hu
  rw [h4] at h3
  omega
end
end Go.Proofs.Ytmdjbnicjohkjaa
