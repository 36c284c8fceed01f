/-
  No cell of these rows narrows 'for every input' (looked for: loops, veiled, ifaces, maps, wideKeys, modest, calm, conditions, laid).
  DERIVED. THE GIVEN ROWS OF THIS SEAT. 10 by the template 'for every input the law returns true; each argument reads behind the call as it read before'; 0 by the template 'total and deterministic' (their statements: YtlhnhmimhpcoaaaTotals.lean).
  GIVEN WITH THE SEED: the statements are not yours to turn. If you find one false, say at which input.
  Laid BY PROGRAM, IN A SANDBOX (cutbox-rows.mjs): the forced cells as the released guide's own fill.sh prints them over the translation 6f66cc40ecb8af66… (all of the seat's roots in one cut). By AI agents, Wed Nov 11 2026. No macro, syntax, notation, axiom, sorry.
-/
import Derived.Test.YtlhnhmimhpcoaaaChecked
import GoSem.Claim
import GoSem.ClaimJoined
import GoSem.ClaimMapViews
import Derived.JoinedTies
import Derived.KernelRfl
namespace Go.Proofs.Ytlhnhmimhpcoaaa
/- THE CELL 'sum', in the pinned program and in every row, IS THE sha256 OF THE DUMP (.gsa) THAT YtlhnhmimhpcoaaaProg.lean LOADS. Nothing in Lean hashes anything: it is a label: what it is worth is what the hold of that sum in a sandbox is worth. -/
noncomputable def Try.pinned : Pinned := { name := "ytlhnhmimhpcoaaa", sum := "6f66cc40ecb8af660210b1ce920eca91c0e18133a18d74e1badbc759e5a0e6f6", checked := Try.checked }
namespace Rows
def none {H : Type} : Left H := { results := [], args := [] }

/-- 'isochronlaw26.SchedPlays': WHATEVER THE INPUT: true; the input reads as it did. -/
def schedPlaysSpec : ChangeSpec := { name := "schedPlays", fn := fun _ => fun
  | [d1, d2] => { results := [.lit (.bool true)], args := [d1, d2] }
  | _ => none }
def schedPlaysRow : OpenClaim := { program := "ytlhnhmimhpcoaaa", sum := "6f66cc40ecb8af660210b1ce920eca91c0e18133a18d74e1badbc759e5a0e6f6", func := "isochron/isochronlaw26.SchedPlays", spec := "schedPlays", unfollowed := true, recurses := true, apart := false }
def SchedPlaysSaid : Prop := schedPlaysRow.holds Try.pinned (OpenSpec.ofChange schedPlaysSpec)

/-- ITS FALSE NEIGHBOUR: 'it returns false'. Refute it at one input. -/
def schedPlaysWrong : ChangeSpec := { name := "schedPlays", fn := fun _ => fun
  | [d1, d2] => { results := [.lit (.bool false)], args := [d1, d2] }
  | _ => none }
def SchedPlaysWrongFalsely : Prop := schedPlaysRow.holds Try.pinned (OpenSpec.ofChange schedPlaysWrong)

/-- 'isochronlaw26.SchedBegins': WHATEVER THE INPUT: true; the input reads as it did. -/
def schedBeginsSpec : ChangeSpec := { name := "schedBegins", fn := fun _ => fun
  | [d1, d2, d3] => { results := [.lit (.bool true)], args := [d1, d2, d3] }
  | _ => none }
def schedBeginsRow : OpenClaim := { program := "ytlhnhmimhpcoaaa", sum := "6f66cc40ecb8af660210b1ce920eca91c0e18133a18d74e1badbc759e5a0e6f6", func := "isochron/isochronlaw26.SchedBegins", spec := "schedBegins", unfollowed := true, recurses := true, apart := false }
def SchedBeginsSaid : Prop := schedBeginsRow.holds Try.pinned (OpenSpec.ofChange schedBeginsSpec)

/-- ITS FALSE NEIGHBOUR: 'it returns false'. Refute it at one input. -/
def schedBeginsWrong : ChangeSpec := { name := "schedBegins", fn := fun _ => fun
  | [d1, d2, d3] => { results := [.lit (.bool false)], args := [d1, d2, d3] }
  | _ => none }
def SchedBeginsWrongFalsely : Prop := schedBeginsRow.holds Try.pinned (OpenSpec.ofChange schedBeginsWrong)

/-- 'isochronlaw26.SchedSignals': WHATEVER THE INPUT: true; the input reads as it did. -/
def schedSignalsSpec : ChangeSpec := { name := "schedSignals", fn := fun _ => fun
  | [d1, d2] => { results := [.lit (.bool true)], args := [d1, d2] }
  | _ => none }
def schedSignalsRow : OpenClaim := { program := "ytlhnhmimhpcoaaa", sum := "6f66cc40ecb8af660210b1ce920eca91c0e18133a18d74e1badbc759e5a0e6f6", func := "isochron/isochronlaw26.SchedSignals", spec := "schedSignals", unfollowed := true, recurses := true, apart := false }
def SchedSignalsSaid : Prop := schedSignalsRow.holds Try.pinned (OpenSpec.ofChange schedSignalsSpec)

/-- ITS FALSE NEIGHBOUR: 'it returns false'. Refute it at one input. -/
def schedSignalsWrong : ChangeSpec := { name := "schedSignals", fn := fun _ => fun
  | [d1, d2] => { results := [.lit (.bool false)], args := [d1, d2] }
  | _ => none }
def SchedSignalsWrongFalsely : Prop := schedSignalsRow.holds Try.pinned (OpenSpec.ofChange schedSignalsWrong)

/-- 'isochronlaw26.SchedBudgets': WHATEVER THE INPUT: true; the input reads as it did. -/
def schedBudgetsSpec : ChangeSpec := { name := "schedBudgets", fn := fun _ => fun
  | [d1, d2] => { results := [.lit (.bool true)], args := [d1, d2] }
  | _ => none }
def schedBudgetsRow : OpenClaim := { program := "ytlhnhmimhpcoaaa", sum := "6f66cc40ecb8af660210b1ce920eca91c0e18133a18d74e1badbc759e5a0e6f6", func := "isochron/isochronlaw26.SchedBudgets", spec := "schedBudgets", unfollowed := true, recurses := true, apart := false }
def SchedBudgetsSaid : Prop := schedBudgetsRow.holds Try.pinned (OpenSpec.ofChange schedBudgetsSpec)

/-- ITS FALSE NEIGHBOUR: 'it returns false'. Refute it at one input. -/
def schedBudgetsWrong : ChangeSpec := { name := "schedBudgets", fn := fun _ => fun
  | [d1, d2] => { results := [.lit (.bool false)], args := [d1, d2] }
  | _ => none }
def SchedBudgetsWrongFalsely : Prop := schedBudgetsRow.holds Try.pinned (OpenSpec.ofChange schedBudgetsWrong)

/-- 'isochronlaw26.SchedLets': WHATEVER THE INPUT: true; the input reads as it did. -/
def schedLetsSpec : ChangeSpec := { name := "schedLets", fn := fun _ => fun
  | [d] => { results := [.lit (.bool true)], args := [d] }
  | _ => none }
def schedLetsRow : OpenClaim := { program := "ytlhnhmimhpcoaaa", sum := "6f66cc40ecb8af660210b1ce920eca91c0e18133a18d74e1badbc759e5a0e6f6", func := "isochron/isochronlaw26.SchedLets", spec := "schedLets", unfollowed := true, recurses := true, apart := false }
def SchedLetsSaid : Prop := schedLetsRow.holds Try.pinned (OpenSpec.ofChange schedLetsSpec)

/-- ITS FALSE NEIGHBOUR: 'it returns false'. Refute it at one input. -/
def schedLetsWrong : ChangeSpec := { name := "schedLets", fn := fun _ => fun
  | [d] => { results := [.lit (.bool false)], args := [d] }
  | _ => none }
def SchedLetsWrongFalsely : Prop := schedLetsRow.holds Try.pinned (OpenSpec.ofChange schedLetsWrong)

/-- 'isochronlaw26.SchedRanks': WHATEVER THE INPUT: true; the input reads as it did. -/
def schedRanksSpec : ChangeSpec := { name := "schedRanks", fn := fun _ => fun
  | [d1, d2] => { results := [.lit (.bool true)], args := [d1, d2] }
  | _ => none }
def schedRanksRow : OpenClaim := { program := "ytlhnhmimhpcoaaa", sum := "6f66cc40ecb8af660210b1ce920eca91c0e18133a18d74e1badbc759e5a0e6f6", func := "isochron/isochronlaw26.SchedRanks", spec := "schedRanks", unfollowed := true, recurses := true, apart := false }
def SchedRanksSaid : Prop := schedRanksRow.holds Try.pinned (OpenSpec.ofChange schedRanksSpec)

/-- ITS FALSE NEIGHBOUR: 'it returns false'. Refute it at one input. -/
def schedRanksWrong : ChangeSpec := { name := "schedRanks", fn := fun _ => fun
  | [d1, d2] => { results := [.lit (.bool false)], args := [d1, d2] }
  | _ => none }
def SchedRanksWrongFalsely : Prop := schedRanksRow.holds Try.pinned (OpenSpec.ofChange schedRanksWrong)

/-- 'isochronlaw26.SchedEnds': WHATEVER THE INPUT: true; the input reads as it did. -/
def schedEndsSpec : ChangeSpec := { name := "schedEnds", fn := fun _ => fun
  | [d1, d2] => { results := [.lit (.bool true)], args := [d1, d2] }
  | _ => none }
def schedEndsRow : OpenClaim := { program := "ytlhnhmimhpcoaaa", sum := "6f66cc40ecb8af660210b1ce920eca91c0e18133a18d74e1badbc759e5a0e6f6", func := "isochron/isochronlaw26.SchedEnds", spec := "schedEnds", unfollowed := true, recurses := true, apart := false }
def SchedEndsSaid : Prop := schedEndsRow.holds Try.pinned (OpenSpec.ofChange schedEndsSpec)

/-- ITS FALSE NEIGHBOUR: 'it returns false'. Refute it at one input. -/
def schedEndsWrong : ChangeSpec := { name := "schedEnds", fn := fun _ => fun
  | [d1, d2] => { results := [.lit (.bool false)], args := [d1, d2] }
  | _ => none }
def SchedEndsWrongFalsely : Prop := schedEndsRow.holds Try.pinned (OpenSpec.ofChange schedEndsWrong)

/-- 'isochronlaw26.SchedCritical': WHATEVER THE INPUT: true; the input reads as it did. -/
def schedCriticalSpec : ChangeSpec := { name := "schedCritical", fn := fun _ => fun
  | [d1, d2, d3] => { results := [.lit (.bool true)], args := [d1, d2, d3] }
  | _ => none }
def schedCriticalRow : OpenClaim := { program := "ytlhnhmimhpcoaaa", sum := "6f66cc40ecb8af660210b1ce920eca91c0e18133a18d74e1badbc759e5a0e6f6", func := "isochron/isochronlaw26.SchedCritical", spec := "schedCritical", unfollowed := true, recurses := true, apart := false }
def SchedCriticalSaid : Prop := schedCriticalRow.holds Try.pinned (OpenSpec.ofChange schedCriticalSpec)

/-- ITS FALSE NEIGHBOUR: 'it returns false'. Refute it at one input. -/
def schedCriticalWrong : ChangeSpec := { name := "schedCritical", fn := fun _ => fun
  | [d1, d2, d3] => { results := [.lit (.bool false)], args := [d1, d2, d3] }
  | _ => none }
def SchedCriticalWrongFalsely : Prop := schedCriticalRow.holds Try.pinned (OpenSpec.ofChange schedCriticalWrong)

/-- 'isochronlaw26.SchedBlocks': WHATEVER THE INPUT: true; the input reads as it did. -/
def schedBlocksSpec : ChangeSpec := { name := "schedBlocks", fn := fun _ => fun
  | [d1, d2, d3, d4] => { results := [.lit (.bool true)], args := [d1, d2, d3, d4] }
  | _ => none }
def schedBlocksRow : OpenClaim := { program := "ytlhnhmimhpcoaaa", sum := "6f66cc40ecb8af660210b1ce920eca91c0e18133a18d74e1badbc759e5a0e6f6", func := "isochron/isochronlaw26.SchedBlocks", spec := "schedBlocks", unfollowed := true, recurses := true, apart := false }
def SchedBlocksSaid : Prop := schedBlocksRow.holds Try.pinned (OpenSpec.ofChange schedBlocksSpec)

/-- ITS FALSE NEIGHBOUR: 'it returns false'. Refute it at one input. -/
def schedBlocksWrong : ChangeSpec := { name := "schedBlocks", fn := fun _ => fun
  | [d1, d2, d3, d4] => { results := [.lit (.bool false)], args := [d1, d2, d3, d4] }
  | _ => none }
def SchedBlocksWrongFalsely : Prop := schedBlocksRow.holds Try.pinned (OpenSpec.ofChange schedBlocksWrong)

/-- 'isochronlaw26.SchedCounts': WHATEVER THE INPUT: true; the input reads as it did. -/
def schedCountsSpec : ChangeSpec := { name := "schedCounts", fn := fun _ => fun
  | [d1, d2] => { results := [.lit (.bool true)], args := [d1, d2] }
  | _ => none }
def schedCountsRow : OpenClaim := { program := "ytlhnhmimhpcoaaa", sum := "6f66cc40ecb8af660210b1ce920eca91c0e18133a18d74e1badbc759e5a0e6f6", func := "isochron/isochronlaw26.SchedCounts", spec := "schedCounts", unfollowed := true, recurses := true, apart := false }
def SchedCountsSaid : Prop := schedCountsRow.holds Try.pinned (OpenSpec.ofChange schedCountsSpec)

/-- ITS FALSE NEIGHBOUR: 'it returns false'. Refute it at one input. -/
def schedCountsWrong : ChangeSpec := { name := "schedCounts", fn := fun _ => fun
  | [d1, d2] => { results := [.lit (.bool false)], args := [d1, d2] }
  | _ => none }
def SchedCountsWrongFalsely : Prop := schedCountsRow.holds Try.pinned (OpenSpec.ofChange schedCountsWrong)

/- THE SECOND FORM. 'bulk': how many values and letters a reading holds, each counted each time it is reached (what is shared counts as often as it is met; a slice's spare places count too). A statement '..UptoSaid' is the law's where the arguments, and the package variables that the reading takes, are together of bulk at most 1048576: NARROWER than '..Said'. Prove '..Said' where nothing that the law and all that it calls make is longer than what came in: it says more and counts as full. Else prove '..UptoSaid'. A law counts once. -/
mutual
def uptoBulk {H : Type} : DataW H → Nat
  | .lit (.string bytes) => bytes.length + 1
  | .lit _ => 1
  | .nil => 1
  | .ptr d => uptoBulk d + 1
  | .slice elems spare => uptoBulkAll elems + uptoBulkAll spare + 1
  | .agg parts => uptoBulkAll parts + 1
  | .iface _ d => uptoBulk d + 1
  | .map entries => uptoBulkEntries entries + 1
  | .held _ => 1
def uptoBulkAll {H : Type} : List (DataW H) → Nat
  | [] => 0
  | d :: r => uptoBulk d + uptoBulkAll r
def uptoBulkEntries {H : Type} : List (Lit × DataW H) → Nat
  | [] => 0
  | x :: r => uptoBulkEntry x + uptoBulkEntries r
def uptoBulkEntry {H : Type} : Lit × DataW H → Nat
  | (.string bytes, d) => bytes.length + uptoBulk d + 1
  | (_, d) => uptoBulk d + 1
 end
def uptoSmall : (H : Type) → List (DataW H) → Bool := fun _ ds => decide (uptoBulkAll ds ≤ 1048576)
def OpenSpec.upto (s : _root_.Go.ChangeSpec) : _root_.Go.OpenSpec := { _root_.Go.OpenSpec.ofChange s with cond := some uptoSmall }

/-- 'isochronlaw26.SchedPlays', WHERE WHAT IT READS IS OF BULK AT MOST 1048576: true; the input reads as it did. -/
def schedPlaysUptoRow : OpenClaim := { program := "ytlhnhmimhpcoaaa", sum := "6f66cc40ecb8af660210b1ce920eca91c0e18133a18d74e1badbc759e5a0e6f6", func := "isochron/isochronlaw26.SchedPlays", spec := "schedPlays", unfollowed := true, recurses := true, apart := false, narrowed := true }
def SchedPlaysUptoSaid : Prop := schedPlaysUptoRow.holds Try.pinned (OpenSpec.upto schedPlaysSpec)

/-- 'isochronlaw26.SchedBegins', WHERE WHAT IT READS IS OF BULK AT MOST 1048576: true; the input reads as it did. -/
def schedBeginsUptoRow : OpenClaim := { program := "ytlhnhmimhpcoaaa", sum := "6f66cc40ecb8af660210b1ce920eca91c0e18133a18d74e1badbc759e5a0e6f6", func := "isochron/isochronlaw26.SchedBegins", spec := "schedBegins", unfollowed := true, recurses := true, apart := false, narrowed := true }
def SchedBeginsUptoSaid : Prop := schedBeginsUptoRow.holds Try.pinned (OpenSpec.upto schedBeginsSpec)

/-- 'isochronlaw26.SchedSignals', WHERE WHAT IT READS IS OF BULK AT MOST 1048576: true; the input reads as it did. -/
def schedSignalsUptoRow : OpenClaim := { program := "ytlhnhmimhpcoaaa", sum := "6f66cc40ecb8af660210b1ce920eca91c0e18133a18d74e1badbc759e5a0e6f6", func := "isochron/isochronlaw26.SchedSignals", spec := "schedSignals", unfollowed := true, recurses := true, apart := false, narrowed := true }
def SchedSignalsUptoSaid : Prop := schedSignalsUptoRow.holds Try.pinned (OpenSpec.upto schedSignalsSpec)

/-- 'isochronlaw26.SchedBudgets', WHERE WHAT IT READS IS OF BULK AT MOST 1048576: true; the input reads as it did. -/
def schedBudgetsUptoRow : OpenClaim := { program := "ytlhnhmimhpcoaaa", sum := "6f66cc40ecb8af660210b1ce920eca91c0e18133a18d74e1badbc759e5a0e6f6", func := "isochron/isochronlaw26.SchedBudgets", spec := "schedBudgets", unfollowed := true, recurses := true, apart := false, narrowed := true }
def SchedBudgetsUptoSaid : Prop := schedBudgetsUptoRow.holds Try.pinned (OpenSpec.upto schedBudgetsSpec)

/-- 'isochronlaw26.SchedLets', WHERE WHAT IT READS IS OF BULK AT MOST 1048576: true; the input reads as it did. -/
def schedLetsUptoRow : OpenClaim := { program := "ytlhnhmimhpcoaaa", sum := "6f66cc40ecb8af660210b1ce920eca91c0e18133a18d74e1badbc759e5a0e6f6", func := "isochron/isochronlaw26.SchedLets", spec := "schedLets", unfollowed := true, recurses := true, apart := false, narrowed := true }
def SchedLetsUptoSaid : Prop := schedLetsUptoRow.holds Try.pinned (OpenSpec.upto schedLetsSpec)

/-- 'isochronlaw26.SchedRanks', WHERE WHAT IT READS IS OF BULK AT MOST 1048576: true; the input reads as it did. -/
def schedRanksUptoRow : OpenClaim := { program := "ytlhnhmimhpcoaaa", sum := "6f66cc40ecb8af660210b1ce920eca91c0e18133a18d74e1badbc759e5a0e6f6", func := "isochron/isochronlaw26.SchedRanks", spec := "schedRanks", unfollowed := true, recurses := true, apart := false, narrowed := true }
def SchedRanksUptoSaid : Prop := schedRanksUptoRow.holds Try.pinned (OpenSpec.upto schedRanksSpec)

/-- 'isochronlaw26.SchedEnds', WHERE WHAT IT READS IS OF BULK AT MOST 1048576: true; the input reads as it did. -/
def schedEndsUptoRow : OpenClaim := { program := "ytlhnhmimhpcoaaa", sum := "6f66cc40ecb8af660210b1ce920eca91c0e18133a18d74e1badbc759e5a0e6f6", func := "isochron/isochronlaw26.SchedEnds", spec := "schedEnds", unfollowed := true, recurses := true, apart := false, narrowed := true }
def SchedEndsUptoSaid : Prop := schedEndsUptoRow.holds Try.pinned (OpenSpec.upto schedEndsSpec)

/-- 'isochronlaw26.SchedCritical', WHERE WHAT IT READS IS OF BULK AT MOST 1048576: true; the input reads as it did. -/
def schedCriticalUptoRow : OpenClaim := { program := "ytlhnhmimhpcoaaa", sum := "6f66cc40ecb8af660210b1ce920eca91c0e18133a18d74e1badbc759e5a0e6f6", func := "isochron/isochronlaw26.SchedCritical", spec := "schedCritical", unfollowed := true, recurses := true, apart := false, narrowed := true }
def SchedCriticalUptoSaid : Prop := schedCriticalUptoRow.holds Try.pinned (OpenSpec.upto schedCriticalSpec)

/-- 'isochronlaw26.SchedBlocks', WHERE WHAT IT READS IS OF BULK AT MOST 1048576: true; the input reads as it did. -/
def schedBlocksUptoRow : OpenClaim := { program := "ytlhnhmimhpcoaaa", sum := "6f66cc40ecb8af660210b1ce920eca91c0e18133a18d74e1badbc759e5a0e6f6", func := "isochron/isochronlaw26.SchedBlocks", spec := "schedBlocks", unfollowed := true, recurses := true, apart := false, narrowed := true }
def SchedBlocksUptoSaid : Prop := schedBlocksUptoRow.holds Try.pinned (OpenSpec.upto schedBlocksSpec)

/-- 'isochronlaw26.SchedCounts', WHERE WHAT IT READS IS OF BULK AT MOST 1048576: true; the input reads as it did. -/
def schedCountsUptoRow : OpenClaim := { program := "ytlhnhmimhpcoaaa", sum := "6f66cc40ecb8af660210b1ce920eca91c0e18133a18d74e1badbc759e5a0e6f6", func := "isochron/isochronlaw26.SchedCounts", spec := "schedCounts", unfollowed := true, recurses := true, apart := false, narrowed := true }
def SchedCountsUptoSaid : Prop := schedCountsUptoRow.holds Try.pinned (OpenSpec.upto schedCountsSpec)

end Rows
end Go.Proofs.Ytlhnhmimhpcoaaa
