/-
  No cell of these rows narrows 'for every input' (looked for: loops, veiled, ifaces, maps, wideKeys, modest, calm, conditions, laid).
  DERIVED. THE GIVEN ROWS OF THIS SEAT. 4 by the template 'for every input the law returns true; each argument reads behind the call as it read before'; 0 by the template 'total and deterministic' (their statements: YtmahagcghpoekaaTotals.lean).
  GIVEN WITH THE SEED: the statements are not yours to turn. If you find one false, say at which input.
  Laid BY PROGRAM, IN A SANDBOX (cutbox-rows.mjs): the forced cells as the released guide's own fill.sh prints them over the translation cb6208c4fddf5eb2… (all of the seat's roots in one cut). By AI agents, Wed Nov 11 2026. No macro, syntax, notation, axiom, sorry.
-/
import Derived.Test.YtmahagcghpoekaaChecked
import GoSem.Claim
import GoSem.ClaimJoined
import GoSem.ClaimMapViews
import Derived.JoinedTies
import Derived.KernelRfl
namespace Go.Proofs.Ytmahagcghpoekaa
/- THE CELL 'sum', in the pinned program and in every row, IS THE sha256 OF THE DUMP (.gsa) THAT YtmahagcghpoekaaProg.lean LOADS. Nothing in Lean hashes anything: it is a label: what it is worth is what the hold of that sum in a sandbox is worth. -/
noncomputable def Try.pinned : Pinned := { name := "ytmahagcghpoekaa", sum := "cb6208c4fddf5eb2b0323167171b19dddf9b52a71f4bd67cc32457375c9b0908", checked := Try.checked }
namespace Rows
def none {H : Type} : Left H := { results := [], args := [] }

/-- 'isochrontop.TopShares': WHATEVER THE INPUT: true; the input reads as it did. -/
def topSharesSpec : ChangeSpec := { name := "topShares", fn := fun _ => fun
  | [d1, d2, d3, d4] => { results := [.lit (.bool true)], args := [d1, d2, d3, d4] }
  | _ => none }
def topSharesRow : OpenClaim := { program := "ytmahagcghpoekaa", sum := "cb6208c4fddf5eb2b0323167171b19dddf9b52a71f4bd67cc32457375c9b0908", func := "isochron/isochrontop.TopShares", spec := "topShares", unfollowed := true, recurses := true, apart := false }
def TopSharesSaid : Prop := topSharesRow.holds Try.pinned (OpenSpec.ofChange topSharesSpec)

/-- ITS FALSE NEIGHBOUR: 'it returns false'. Refute it at one input. -/
def topSharesWrong : ChangeSpec := { name := "topShares", fn := fun _ => fun
  | [d1, d2, d3, d4] => { results := [.lit (.bool false)], args := [d1, d2, d3, d4] }
  | _ => none }
def TopSharesWrongFalsely : Prop := topSharesRow.holds Try.pinned (OpenSpec.ofChange topSharesWrong)

/-- 'isochrontop.TopBlocks': WHATEVER THE INPUT: true; the input reads as it did. -/
def topBlocksSpec : ChangeSpec := { name := "topBlocks", fn := fun _ => fun
  | [d1, d2, d3, d4] => { results := [.lit (.bool true)], args := [d1, d2, d3, d4] }
  | _ => none }
def topBlocksRow : OpenClaim := { program := "ytmahagcghpoekaa", sum := "cb6208c4fddf5eb2b0323167171b19dddf9b52a71f4bd67cc32457375c9b0908", func := "isochron/isochrontop.TopBlocks", spec := "topBlocks", unfollowed := true, recurses := true, apart := false }
def TopBlocksSaid : Prop := topBlocksRow.holds Try.pinned (OpenSpec.ofChange topBlocksSpec)

/-- ITS FALSE NEIGHBOUR: 'it returns false'. Refute it at one input. -/
def topBlocksWrong : ChangeSpec := { name := "topBlocks", fn := fun _ => fun
  | [d1, d2, d3, d4] => { results := [.lit (.bool false)], args := [d1, d2, d3, d4] }
  | _ => none }
def TopBlocksWrongFalsely : Prop := topBlocksRow.holds Try.pinned (OpenSpec.ofChange topBlocksWrong)

/-- 'isochrontop.TopSustains': WHATEVER THE INPUT: true; the input reads as it did. -/
def topSustainsSpec : ChangeSpec := { name := "topSustains", fn := fun _ => fun
  | [d1, d2] => { results := [.lit (.bool true)], args := [d1, d2] }
  | _ => none }
def topSustainsRow : OpenClaim := { program := "ytmahagcghpoekaa", sum := "cb6208c4fddf5eb2b0323167171b19dddf9b52a71f4bd67cc32457375c9b0908", func := "isochron/isochrontop.TopSustains", spec := "topSustains", unfollowed := true, recurses := true, apart := false }
def TopSustainsSaid : Prop := topSustainsRow.holds Try.pinned (OpenSpec.ofChange topSustainsSpec)

/-- ITS FALSE NEIGHBOUR: 'it returns false'. Refute it at one input. -/
def topSustainsWrong : ChangeSpec := { name := "topSustains", fn := fun _ => fun
  | [d1, d2] => { results := [.lit (.bool false)], args := [d1, d2] }
  | _ => none }
def TopSustainsWrongFalsely : Prop := topSustainsRow.holds Try.pinned (OpenSpec.ofChange topSustainsWrong)

/-- 'isochrontop.TopClocked': WHATEVER THE INPUT: true; the input reads as it did. -/
def topClockedSpec : ChangeSpec := { name := "topClocked", fn := fun _ => fun
  | [d1, d2, d3, d4, d5] => { results := [.lit (.bool true)], args := [d1, d2, d3, d4, d5] }
  | _ => none }
def topClockedRow : OpenClaim := { program := "ytmahagcghpoekaa", sum := "cb6208c4fddf5eb2b0323167171b19dddf9b52a71f4bd67cc32457375c9b0908", func := "isochron/isochrontop.TopClocked", spec := "topClocked", unfollowed := true, recurses := true, apart := false }
def TopClockedSaid : Prop := topClockedRow.holds Try.pinned (OpenSpec.ofChange topClockedSpec)

/-- ITS FALSE NEIGHBOUR: 'it returns false'. Refute it at one input. -/
def topClockedWrong : ChangeSpec := { name := "topClocked", fn := fun _ => fun
  | [d1, d2, d3, d4, d5] => { results := [.lit (.bool false)], args := [d1, d2, d3, d4, d5] }
  | _ => none }
def TopClockedWrongFalsely : Prop := topClockedRow.holds Try.pinned (OpenSpec.ofChange topClockedWrong)

/- THE SECOND FORM. 'bulk': how many values and letters a reading holds, each counted each time it is reached (what is shared counts as often as it is met; a slice's spare places count too). A statement '..UptoSaid' is the law's where the arguments, and the package variables that the reading takes, are together of bulk at most 1048576: NARROWER than '..Said'. Prove '..Said' where nothing that the law and all that it calls make is longer than what came in: it says more and counts as full. Else prove '..UptoSaid'. A law counts once. -/
mutual
def uptoBulk {H : Type} : DataW H → Nat
  | .lit (.string bytes) => bytes.length + 1
  | .lit _ => 1
  | .nil => 1
  | .ptr d => uptoBulk d + 1
  | .slice elems spare => uptoBulkAll elems + uptoBulkAll spare + 1
  | .agg parts => uptoBulkAll parts + 1
  | .iface _ d => uptoBulk d + 1
  | .map entries => uptoBulkEntries entries + 1
  | .held _ => 1
def uptoBulkAll {H : Type} : List (DataW H) → Nat
  | [] => 0
  | d :: r => uptoBulk d + uptoBulkAll r
def uptoBulkEntries {H : Type} : List (Lit × DataW H) → Nat
  | [] => 0
  | x :: r => uptoBulkEntry x + uptoBulkEntries r
def uptoBulkEntry {H : Type} : Lit × DataW H → Nat
  | (.string bytes, d) => bytes.length + uptoBulk d + 1
  | (_, d) => uptoBulk d + 1
 end
def uptoSmall : (H : Type) → List (DataW H) → Bool := fun _ ds => decide (uptoBulkAll ds ≤ 1048576)
def OpenSpec.upto (s : _root_.Go.ChangeSpec) : _root_.Go.OpenSpec := { _root_.Go.OpenSpec.ofChange s with cond := some uptoSmall }

/-- 'isochrontop.TopShares', WHERE WHAT IT READS IS OF BULK AT MOST 1048576: true; the input reads as it did. -/
def topSharesUptoRow : OpenClaim := { program := "ytmahagcghpoekaa", sum := "cb6208c4fddf5eb2b0323167171b19dddf9b52a71f4bd67cc32457375c9b0908", func := "isochron/isochrontop.TopShares", spec := "topShares", unfollowed := true, recurses := true, apart := false, narrowed := true }
def TopSharesUptoSaid : Prop := topSharesUptoRow.holds Try.pinned (OpenSpec.upto topSharesSpec)

/-- 'isochrontop.TopBlocks', WHERE WHAT IT READS IS OF BULK AT MOST 1048576: true; the input reads as it did. -/
def topBlocksUptoRow : OpenClaim := { program := "ytmahagcghpoekaa", sum := "cb6208c4fddf5eb2b0323167171b19dddf9b52a71f4bd67cc32457375c9b0908", func := "isochron/isochrontop.TopBlocks", spec := "topBlocks", unfollowed := true, recurses := true, apart := false, narrowed := true }
def TopBlocksUptoSaid : Prop := topBlocksUptoRow.holds Try.pinned (OpenSpec.upto topBlocksSpec)

/-- 'isochrontop.TopSustains', WHERE WHAT IT READS IS OF BULK AT MOST 1048576: true; the input reads as it did. -/
def topSustainsUptoRow : OpenClaim := { program := "ytmahagcghpoekaa", sum := "cb6208c4fddf5eb2b0323167171b19dddf9b52a71f4bd67cc32457375c9b0908", func := "isochron/isochrontop.TopSustains", spec := "topSustains", unfollowed := true, recurses := true, apart := false, narrowed := true }
def TopSustainsUptoSaid : Prop := topSustainsUptoRow.holds Try.pinned (OpenSpec.upto topSustainsSpec)

/-- 'isochrontop.TopClocked', WHERE WHAT IT READS IS OF BULK AT MOST 1048576: true; the input reads as it did. -/
def topClockedUptoRow : OpenClaim := { program := "ytmahagcghpoekaa", sum := "cb6208c4fddf5eb2b0323167171b19dddf9b52a71f4bd67cc32457375c9b0908", func := "isochron/isochrontop.TopClocked", spec := "topClocked", unfollowed := true, recurses := true, apart := false, narrowed := true }
def TopClockedUptoSaid : Prop := topClockedUptoRow.holds Try.pinned (OpenSpec.upto topClockedSpec)

end Rows
end Go.Proofs.Ytmahagcghpoekaa
