/-
  No cell of these rows narrows 'for every input' (looked for: loops, veiled, ifaces, maps, wideKeys, modest, calm, conditions, laid).
  DERIVED. THE GIVEN ROWS OF THIS SEAT. 11 by the template 'for every input the law returns true; each argument reads behind the call as it read before'; 0 by the template 'total and deterministic' (their statements: YtfiggbeaomkepaaTotals.lean).
  GIVEN WITH THE SEED: the statements are not yours to turn. If you find one false, say at which input.
  Laid BY PROGRAM, IN A SANDBOX (cutbox-rows.mjs): the forced cells as the released guide's own fill.sh prints them over the translation 75ec1a2c1c952b5b… (all of the seat's roots in one cut). By AI agents, Wed Nov 11 2026. No macro, syntax, notation, axiom, sorry.
-/
import Derived.Test.YtfiggbeaomkepaaChecked
import GoSem.Claim
import GoSem.ClaimJoined
import GoSem.ClaimMapViews
import Derived.JoinedTies
import Derived.KernelRfl
namespace Go.Proofs.Ytfiggbeaomkepaa
/- THE CELL 'sum', in the pinned program and in every row, IS THE sha256 OF THE DUMP (.gsa) THAT YtfiggbeaomkepaaProg.lean LOADS. Nothing in Lean hashes anything: it is a label: what it is worth is what the hold of that sum in a sandbox is worth. -/
noncomputable def Try.pinned : Pinned := { name := "ytfiggbeaomkepaa", sum := "75ec1a2c1c952b5bea9d8f4e464f2f11264494fc7c4fe2a7044bc59cd9088ebe", checked := Try.checked }
namespace Rows
def none {H : Type} : Left H := { results := [], args := [] }

/-- 'isochronlaw20.ArriveMost': WHATEVER THE INPUT: true; the input reads as it did. -/
def arriveMostSpec : ChangeSpec := { name := "arriveMost", fn := fun _ => fun
  | [d1, d2, d3] => { results := [.lit (.bool true)], args := [d1, d2, d3] }
  | _ => none }
def arriveMostRow : OpenClaim := { program := "ytfiggbeaomkepaa", sum := "75ec1a2c1c952b5bea9d8f4e464f2f11264494fc7c4fe2a7044bc59cd9088ebe", func := "isochron/isochronlaw20.ArriveMost", spec := "arriveMost", apart := false }
def ArriveMostSaid : Prop := arriveMostRow.holds Try.pinned (OpenSpec.ofChange arriveMostSpec)

/-- ITS FALSE NEIGHBOUR: 'it returns false'. Refute it at one input. -/
def arriveMostWrong : ChangeSpec := { name := "arriveMost", fn := fun _ => fun
  | [d1, d2, d3] => { results := [.lit (.bool false)], args := [d1, d2, d3] }
  | _ => none }
def ArriveMostWrongFalsely : Prop := arriveMostRow.holds Try.pinned (OpenSpec.ofChange arriveMostWrong)

/-- 'isochronlaw20.ArriveClocks': WHATEVER THE INPUT: true; the input reads as it did. -/
def arriveClocksSpec : ChangeSpec := { name := "arriveClocks", fn := fun _ => fun
  | [d1, d2, d3] => { results := [.lit (.bool true)], args := [d1, d2, d3] }
  | _ => none }
def arriveClocksRow : OpenClaim := { program := "ytfiggbeaomkepaa", sum := "75ec1a2c1c952b5bea9d8f4e464f2f11264494fc7c4fe2a7044bc59cd9088ebe", func := "isochron/isochronlaw20.ArriveClocks", spec := "arriveClocks", apart := false }
def ArriveClocksSaid : Prop := arriveClocksRow.holds Try.pinned (OpenSpec.ofChange arriveClocksSpec)

/-- ITS FALSE NEIGHBOUR: 'it returns false'. Refute it at one input. -/
def arriveClocksWrong : ChangeSpec := { name := "arriveClocks", fn := fun _ => fun
  | [d1, d2, d3] => { results := [.lit (.bool false)], args := [d1, d2, d3] }
  | _ => none }
def ArriveClocksWrongFalsely : Prop := arriveClocksRow.holds Try.pinned (OpenSpec.ofChange arriveClocksWrong)

/-- 'isochronlaw20.ArriveLets': WHATEVER THE INPUT: true; the input reads as it did. -/
def arriveLetsSpec : ChangeSpec := { name := "arriveLets", fn := fun _ => fun
  | [d1, d2] => { results := [.lit (.bool true)], args := [d1, d2] }
  | _ => none }
def arriveLetsRow : OpenClaim := { program := "ytfiggbeaomkepaa", sum := "75ec1a2c1c952b5bea9d8f4e464f2f11264494fc7c4fe2a7044bc59cd9088ebe", func := "isochron/isochronlaw20.ArriveLets", spec := "arriveLets", unfollowed := true, recurses := true, apart := false }
def ArriveLetsSaid : Prop := arriveLetsRow.holds Try.pinned (OpenSpec.ofChange arriveLetsSpec)

/-- ITS FALSE NEIGHBOUR: 'it returns false'. Refute it at one input. -/
def arriveLetsWrong : ChangeSpec := { name := "arriveLets", fn := fun _ => fun
  | [d1, d2] => { results := [.lit (.bool false)], args := [d1, d2] }
  | _ => none }
def ArriveLetsWrongFalsely : Prop := arriveLetsRow.holds Try.pinned (OpenSpec.ofChange arriveLetsWrong)

/-- 'isochronlaw20.ArriveDrifts': WHATEVER THE INPUT: true; the input reads as it did. -/
def arriveDriftsSpec : ChangeSpec := { name := "arriveDrifts", fn := fun _ => fun
  | [d1, d2] => { results := [.lit (.bool true)], args := [d1, d2] }
  | _ => none }
def arriveDriftsRow : OpenClaim := { program := "ytfiggbeaomkepaa", sum := "75ec1a2c1c952b5bea9d8f4e464f2f11264494fc7c4fe2a7044bc59cd9088ebe", func := "isochron/isochronlaw20.ArriveDrifts", spec := "arriveDrifts", apart := false }
def ArriveDriftsSaid : Prop := arriveDriftsRow.holds Try.pinned (OpenSpec.ofChange arriveDriftsSpec)

/-- ITS FALSE NEIGHBOUR: 'it returns false'. Refute it at one input. -/
def arriveDriftsWrong : ChangeSpec := { name := "arriveDrifts", fn := fun _ => fun
  | [d1, d2] => { results := [.lit (.bool false)], args := [d1, d2] }
  | _ => none }
def ArriveDriftsWrongFalsely : Prop := arriveDriftsRow.holds Try.pinned (OpenSpec.ofChange arriveDriftsWrong)

/-- 'isochronlaw20.ArriveLooser': WHATEVER THE INPUT: true; the input reads as it did. -/
def arriveLooserSpec : ChangeSpec := { name := "arriveLooser", fn := fun _ => fun
  | [d1, d2, d3, d4] => { results := [.lit (.bool true)], args := [d1, d2, d3, d4] }
  | _ => none }
def arriveLooserRow : OpenClaim := { program := "ytfiggbeaomkepaa", sum := "75ec1a2c1c952b5bea9d8f4e464f2f11264494fc7c4fe2a7044bc59cd9088ebe", func := "isochron/isochronlaw20.ArriveLooser", spec := "arriveLooser", unfollowed := true, recurses := true, apart := false }
def ArriveLooserSaid : Prop := arriveLooserRow.holds Try.pinned (OpenSpec.ofChange arriveLooserSpec)

/-- ITS FALSE NEIGHBOUR: 'it returns false'. Refute it at one input. -/
def arriveLooserWrong : ChangeSpec := { name := "arriveLooser", fn := fun _ => fun
  | [d1, d2, d3, d4] => { results := [.lit (.bool false)], args := [d1, d2, d3, d4] }
  | _ => none }
def ArriveLooserWrongFalsely : Prop := arriveLooserRow.holds Try.pinned (OpenSpec.ofChange arriveLooserWrong)

/-- 'isochronlaw20.ArriveDense': WHATEVER THE INPUT: true; the input reads as it did. -/
def arriveDenseSpec : ChangeSpec := { name := "arriveDense", fn := fun _ => fun
  | [d1, d2] => { results := [.lit (.bool true)], args := [d1, d2] }
  | _ => none }
def arriveDenseRow : OpenClaim := { program := "ytfiggbeaomkepaa", sum := "75ec1a2c1c952b5bea9d8f4e464f2f11264494fc7c4fe2a7044bc59cd9088ebe", func := "isochron/isochronlaw20.ArriveDense", spec := "arriveDense", unfollowed := true, recurses := true, apart := false }
def ArriveDenseSaid : Prop := arriveDenseRow.holds Try.pinned (OpenSpec.ofChange arriveDenseSpec)

/-- ITS FALSE NEIGHBOUR: 'it returns false'. Refute it at one input. -/
def arriveDenseWrong : ChangeSpec := { name := "arriveDense", fn := fun _ => fun
  | [d1, d2] => { results := [.lit (.bool false)], args := [d1, d2] }
  | _ => none }
def ArriveDenseWrongFalsely : Prop := arriveDenseRow.holds Try.pinned (OpenSpec.ofChange arriveDenseWrong)

/-- 'isochronlaw20.ArriveBunches': WHATEVER THE INPUT: true; the input reads as it did. -/
def arriveBunchesSpec : ChangeSpec := { name := "arriveBunches", fn := fun _ => fun
  | [d1, d2, d3, d4] => { results := [.lit (.bool true)], args := [d1, d2, d3, d4] }
  | _ => none }
def arriveBunchesRow : OpenClaim := { program := "ytfiggbeaomkepaa", sum := "75ec1a2c1c952b5bea9d8f4e464f2f11264494fc7c4fe2a7044bc59cd9088ebe", func := "isochron/isochronlaw20.ArriveBunches", spec := "arriveBunches", unfollowed := true, recurses := true, apart := false }
def ArriveBunchesSaid : Prop := arriveBunchesRow.holds Try.pinned (OpenSpec.ofChange arriveBunchesSpec)

/-- ITS FALSE NEIGHBOUR: 'it returns false'. Refute it at one input. -/
def arriveBunchesWrong : ChangeSpec := { name := "arriveBunches", fn := fun _ => fun
  | [d1, d2, d3, d4] => { results := [.lit (.bool false)], args := [d1, d2, d3, d4] }
  | _ => none }
def ArriveBunchesWrongFalsely : Prop := arriveBunchesRow.holds Try.pinned (OpenSpec.ofChange arriveBunchesWrong)

/-- 'isochronlaw20.ArriveBounded': WHATEVER THE INPUT: true; the input reads as it did. -/
def arriveBoundedSpec : ChangeSpec := { name := "arriveBounded", fn := fun _ => fun
  | [d1, d2, d3, d4] => { results := [.lit (.bool true)], args := [d1, d2, d3, d4] }
  | _ => none }
def arriveBoundedRow : OpenClaim := { program := "ytfiggbeaomkepaa", sum := "75ec1a2c1c952b5bea9d8f4e464f2f11264494fc7c4fe2a7044bc59cd9088ebe", func := "isochron/isochronlaw20.ArriveBounded", spec := "arriveBounded", unfollowed := true, recurses := true, apart := false }
def ArriveBoundedSaid : Prop := arriveBoundedRow.holds Try.pinned (OpenSpec.ofChange arriveBoundedSpec)

/-- ITS FALSE NEIGHBOUR: 'it returns false'. Refute it at one input. -/
def arriveBoundedWrong : ChangeSpec := { name := "arriveBounded", fn := fun _ => fun
  | [d1, d2, d3, d4] => { results := [.lit (.bool false)], args := [d1, d2, d3, d4] }
  | _ => none }
def ArriveBoundedWrongFalsely : Prop := arriveBoundedRow.holds Try.pinned (OpenSpec.ofChange arriveBoundedWrong)

/-- 'isochronlaw20.ArriveTimers': WHATEVER THE INPUT: true; the input reads as it did. -/
def arriveTimersSpec : ChangeSpec := { name := "arriveTimers", fn := fun _ => fun
  | [d1, d2, d3] => { results := [.lit (.bool true)], args := [d1, d2, d3] }
  | _ => none }
def arriveTimersRow : OpenClaim := { program := "ytfiggbeaomkepaa", sum := "75ec1a2c1c952b5bea9d8f4e464f2f11264494fc7c4fe2a7044bc59cd9088ebe", func := "isochron/isochronlaw20.ArriveTimers", spec := "arriveTimers", unfollowed := true, recurses := true, apart := false }
def ArriveTimersSaid : Prop := arriveTimersRow.holds Try.pinned (OpenSpec.ofChange arriveTimersSpec)

/-- ITS FALSE NEIGHBOUR: 'it returns false'. Refute it at one input. -/
def arriveTimersWrong : ChangeSpec := { name := "arriveTimers", fn := fun _ => fun
  | [d1, d2, d3] => { results := [.lit (.bool false)], args := [d1, d2, d3] }
  | _ => none }
def ArriveTimersWrongFalsely : Prop := arriveTimersRow.holds Try.pinned (OpenSpec.ofChange arriveTimersWrong)

/-- 'isochronlaw20.ArriveCounts': WHATEVER THE INPUT: true; the input reads as it did. -/
def arriveCountsSpec : ChangeSpec := { name := "arriveCounts", fn := fun _ => fun
  | [d1, d2, d3, d4] => { results := [.lit (.bool true)], args := [d1, d2, d3, d4] }
  | _ => none }
def arriveCountsRow : OpenClaim := { program := "ytfiggbeaomkepaa", sum := "75ec1a2c1c952b5bea9d8f4e464f2f11264494fc7c4fe2a7044bc59cd9088ebe", func := "isochron/isochronlaw20.ArriveCounts", spec := "arriveCounts", unfollowed := true, recurses := true, apart := false }
def ArriveCountsSaid : Prop := arriveCountsRow.holds Try.pinned (OpenSpec.ofChange arriveCountsSpec)

/-- ITS FALSE NEIGHBOUR: 'it returns false'. Refute it at one input. -/
def arriveCountsWrong : ChangeSpec := { name := "arriveCounts", fn := fun _ => fun
  | [d1, d2, d3, d4] => { results := [.lit (.bool false)], args := [d1, d2, d3, d4] }
  | _ => none }
def ArriveCountsWrongFalsely : Prop := arriveCountsRow.holds Try.pinned (OpenSpec.ofChange arriveCountsWrong)

/-- 'isochronlaw20.ArriveMerges': WHATEVER THE INPUT: true; the input reads as it did. -/
def arriveMergesSpec : ChangeSpec := { name := "arriveMerges", fn := fun _ => fun
  | [d1, d2] => { results := [.lit (.bool true)], args := [d1, d2] }
  | _ => none }
def arriveMergesRow : OpenClaim := { program := "ytfiggbeaomkepaa", sum := "75ec1a2c1c952b5bea9d8f4e464f2f11264494fc7c4fe2a7044bc59cd9088ebe", func := "isochron/isochronlaw20.ArriveMerges", spec := "arriveMerges", unfollowed := true, recurses := true, apart := false }
def ArriveMergesSaid : Prop := arriveMergesRow.holds Try.pinned (OpenSpec.ofChange arriveMergesSpec)

/-- ITS FALSE NEIGHBOUR: 'it returns false'. Refute it at one input. -/
def arriveMergesWrong : ChangeSpec := { name := "arriveMerges", fn := fun _ => fun
  | [d1, d2] => { results := [.lit (.bool false)], args := [d1, d2] }
  | _ => none }
def ArriveMergesWrongFalsely : Prop := arriveMergesRow.holds Try.pinned (OpenSpec.ofChange arriveMergesWrong)

/- THE SECOND FORM. 'bulk': how many values and letters a reading holds, each counted each time it is reached (what is shared counts as often as it is met; a slice's spare places count too). A statement '..UptoSaid' is the law's where the arguments, and the package variables that the reading takes, are together of bulk at most 1048576: NARROWER than '..Said'. Prove '..Said' where nothing that the law and all that it calls make is longer than what came in: it says more and counts as full. Else prove '..UptoSaid'. A law counts once. -/
mutual
def uptoBulk {H : Type} : DataW H → Nat
  | .lit (.string bytes) => bytes.length + 1
  | .lit _ => 1
  | .nil => 1
  | .ptr d => uptoBulk d + 1
  | .slice elems spare => uptoBulkAll elems + uptoBulkAll spare + 1
  | .agg parts => uptoBulkAll parts + 1
  | .iface _ d => uptoBulk d + 1
  | .map entries => uptoBulkEntries entries + 1
  | .held _ => 1
def uptoBulkAll {H : Type} : List (DataW H) → Nat
  | [] => 0
  | d :: r => uptoBulk d + uptoBulkAll r
def uptoBulkEntries {H : Type} : List (Lit × DataW H) → Nat
  | [] => 0
  | x :: r => uptoBulkEntry x + uptoBulkEntries r
def uptoBulkEntry {H : Type} : Lit × DataW H → Nat
  | (.string bytes, d) => bytes.length + uptoBulk d + 1
  | (_, d) => uptoBulk d + 1
 end
def uptoSmall : (H : Type) → List (DataW H) → Bool := fun _ ds => decide (uptoBulkAll ds ≤ 1048576)
def OpenSpec.upto (s : _root_.Go.ChangeSpec) : _root_.Go.OpenSpec := { _root_.Go.OpenSpec.ofChange s with cond := some uptoSmall }

/-- 'isochronlaw20.ArriveMost', WHERE WHAT IT READS IS OF BULK AT MOST 1048576: true; the input reads as it did. -/
def arriveMostUptoRow : OpenClaim := { program := "ytfiggbeaomkepaa", sum := "75ec1a2c1c952b5bea9d8f4e464f2f11264494fc7c4fe2a7044bc59cd9088ebe", func := "isochron/isochronlaw20.ArriveMost", spec := "arriveMost", apart := false, narrowed := true }
def ArriveMostUptoSaid : Prop := arriveMostUptoRow.holds Try.pinned (OpenSpec.upto arriveMostSpec)

/-- 'isochronlaw20.ArriveClocks', WHERE WHAT IT READS IS OF BULK AT MOST 1048576: true; the input reads as it did. -/
def arriveClocksUptoRow : OpenClaim := { program := "ytfiggbeaomkepaa", sum := "75ec1a2c1c952b5bea9d8f4e464f2f11264494fc7c4fe2a7044bc59cd9088ebe", func := "isochron/isochronlaw20.ArriveClocks", spec := "arriveClocks", apart := false, narrowed := true }
def ArriveClocksUptoSaid : Prop := arriveClocksUptoRow.holds Try.pinned (OpenSpec.upto arriveClocksSpec)

/-- 'isochronlaw20.ArriveLets', WHERE WHAT IT READS IS OF BULK AT MOST 1048576: true; the input reads as it did. -/
def arriveLetsUptoRow : OpenClaim := { program := "ytfiggbeaomkepaa", sum := "75ec1a2c1c952b5bea9d8f4e464f2f11264494fc7c4fe2a7044bc59cd9088ebe", func := "isochron/isochronlaw20.ArriveLets", spec := "arriveLets", unfollowed := true, recurses := true, apart := false, narrowed := true }
def ArriveLetsUptoSaid : Prop := arriveLetsUptoRow.holds Try.pinned (OpenSpec.upto arriveLetsSpec)

/-- 'isochronlaw20.ArriveDrifts', WHERE WHAT IT READS IS OF BULK AT MOST 1048576: true; the input reads as it did. -/
def arriveDriftsUptoRow : OpenClaim := { program := "ytfiggbeaomkepaa", sum := "75ec1a2c1c952b5bea9d8f4e464f2f11264494fc7c4fe2a7044bc59cd9088ebe", func := "isochron/isochronlaw20.ArriveDrifts", spec := "arriveDrifts", apart := false, narrowed := true }
def ArriveDriftsUptoSaid : Prop := arriveDriftsUptoRow.holds Try.pinned (OpenSpec.upto arriveDriftsSpec)

/-- 'isochronlaw20.ArriveLooser', WHERE WHAT IT READS IS OF BULK AT MOST 1048576: true; the input reads as it did. -/
def arriveLooserUptoRow : OpenClaim := { program := "ytfiggbeaomkepaa", sum := "75ec1a2c1c952b5bea9d8f4e464f2f11264494fc7c4fe2a7044bc59cd9088ebe", func := "isochron/isochronlaw20.ArriveLooser", spec := "arriveLooser", unfollowed := true, recurses := true, apart := false, narrowed := true }
def ArriveLooserUptoSaid : Prop := arriveLooserUptoRow.holds Try.pinned (OpenSpec.upto arriveLooserSpec)

/-- 'isochronlaw20.ArriveDense', WHERE WHAT IT READS IS OF BULK AT MOST 1048576: true; the input reads as it did. -/
def arriveDenseUptoRow : OpenClaim := { program := "ytfiggbeaomkepaa", sum := "75ec1a2c1c952b5bea9d8f4e464f2f11264494fc7c4fe2a7044bc59cd9088ebe", func := "isochron/isochronlaw20.ArriveDense", spec := "arriveDense", unfollowed := true, recurses := true, apart := false, narrowed := true }
def ArriveDenseUptoSaid : Prop := arriveDenseUptoRow.holds Try.pinned (OpenSpec.upto arriveDenseSpec)

/-- 'isochronlaw20.ArriveBunches', WHERE WHAT IT READS IS OF BULK AT MOST 1048576: true; the input reads as it did. -/
def arriveBunchesUptoRow : OpenClaim := { program := "ytfiggbeaomkepaa", sum := "75ec1a2c1c952b5bea9d8f4e464f2f11264494fc7c4fe2a7044bc59cd9088ebe", func := "isochron/isochronlaw20.ArriveBunches", spec := "arriveBunches", unfollowed := true, recurses := true, apart := false, narrowed := true }
def ArriveBunchesUptoSaid : Prop := arriveBunchesUptoRow.holds Try.pinned (OpenSpec.upto arriveBunchesSpec)

/-- 'isochronlaw20.ArriveBounded', WHERE WHAT IT READS IS OF BULK AT MOST 1048576: true; the input reads as it did. -/
def arriveBoundedUptoRow : OpenClaim := { program := "ytfiggbeaomkepaa", sum := "75ec1a2c1c952b5bea9d8f4e464f2f11264494fc7c4fe2a7044bc59cd9088ebe", func := "isochron/isochronlaw20.ArriveBounded", spec := "arriveBounded", unfollowed := true, recurses := true, apart := false, narrowed := true }
def ArriveBoundedUptoSaid : Prop := arriveBoundedUptoRow.holds Try.pinned (OpenSpec.upto arriveBoundedSpec)

/-- 'isochronlaw20.ArriveTimers', WHERE WHAT IT READS IS OF BULK AT MOST 1048576: true; the input reads as it did. -/
def arriveTimersUptoRow : OpenClaim := { program := "ytfiggbeaomkepaa", sum := "75ec1a2c1c952b5bea9d8f4e464f2f11264494fc7c4fe2a7044bc59cd9088ebe", func := "isochron/isochronlaw20.ArriveTimers", spec := "arriveTimers", unfollowed := true, recurses := true, apart := false, narrowed := true }
def ArriveTimersUptoSaid : Prop := arriveTimersUptoRow.holds Try.pinned (OpenSpec.upto arriveTimersSpec)

/-- 'isochronlaw20.ArriveCounts', WHERE WHAT IT READS IS OF BULK AT MOST 1048576: true; the input reads as it did. -/
def arriveCountsUptoRow : OpenClaim := { program := "ytfiggbeaomkepaa", sum := "75ec1a2c1c952b5bea9d8f4e464f2f11264494fc7c4fe2a7044bc59cd9088ebe", func := "isochron/isochronlaw20.ArriveCounts", spec := "arriveCounts", unfollowed := true, recurses := true, apart := false, narrowed := true }
def ArriveCountsUptoSaid : Prop := arriveCountsUptoRow.holds Try.pinned (OpenSpec.upto arriveCountsSpec)

/-- 'isochronlaw20.ArriveMerges', WHERE WHAT IT READS IS OF BULK AT MOST 1048576: true; the input reads as it did. -/
def arriveMergesUptoRow : OpenClaim := { program := "ytfiggbeaomkepaa", sum := "75ec1a2c1c952b5bea9d8f4e464f2f11264494fc7c4fe2a7044bc59cd9088ebe", func := "isochron/isochronlaw20.ArriveMerges", spec := "arriveMerges", unfollowed := true, recurses := true, apart := false, narrowed := true }
def ArriveMergesUptoSaid : Prop := arriveMergesUptoRow.holds Try.pinned (OpenSpec.upto arriveMergesSpec)

end Rows
end Go.Proofs.Ytfiggbeaomkepaa
