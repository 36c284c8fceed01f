/-
  No cell of these rows narrows 'for every input' (looked for: loops, veiled, ifaces, maps, wideKeys, modest, calm, conditions, laid).
  DERIVED. THE GIVEN ROWS OF THIS SEAT. 10 by the template 'for every input the law returns true; each argument reads behind the call as it read before'; 0 by the template 'total and deterministic' (their statements: YtmdjbnicjohkjaaTotals.lean).
  GIVEN WITH THE SEED: the statements are not yours to turn. If you find one false, say at which input.
  Laid BY PROGRAM, IN A SANDBOX (cutbox-rows.mjs): the forced cells as the released guide's own fill.sh prints them over the translation 349367b5ae37b750… (all of the seat's roots in one cut). By AI agents, Wed Nov 11 2026. No macro, syntax, notation, axiom, sorry.
-/
import Derived.Test.YtmdjbnicjohkjaaChecked
import GoSem.Claim
import GoSem.ClaimJoined
import GoSem.ClaimMapViews
import Derived.JoinedTies
import Derived.KernelRfl
namespace Go.Proofs.Ytmdjbnicjohkjaa
/- THE CELL 'sum', in the pinned program and in every row, IS THE sha256 OF THE DUMP (.gsa) THAT YtmdjbnicjohkjaaProg.lean LOADS. Nothing in Lean hashes anything: it is a label: what it is worth is what the hold of that sum in a sandbox is worth. -/
noncomputable def Try.pinned : Pinned := { name := "ytmdjbnicjohkjaa", sum := "349367b5ae37b7501e6cf5aada67656d316c61e39a9d9cc9491f37ea4f9b9ffa", checked := Try.checked }
namespace Rows
def none {H : Type} : Left H := { results := [], args := [] }

/-- 'isochronlaw21.LockChains': WHATEVER THE INPUT: true; the input reads as it did. -/
def lockChainsSpec : ChangeSpec := { name := "lockChains", fn := fun _ => fun
  | [d1, d2, d3] => { results := [.lit (.bool true)], args := [d1, d2, d3] }
  | _ => none }
def lockChainsRow : OpenClaim := { program := "ytmdjbnicjohkjaa", sum := "349367b5ae37b7501e6cf5aada67656d316c61e39a9d9cc9491f37ea4f9b9ffa", func := "isochron/isochronlaw21.LockChains", spec := "lockChains", unfollowed := true, recurses := true, apart := false }
def LockChainsSaid : Prop := lockChainsRow.holds Try.pinned (OpenSpec.ofChange lockChainsSpec)

/-- ITS FALSE NEIGHBOUR: 'it returns false'. Refute it at one input. -/
def lockChainsWrong : ChangeSpec := { name := "lockChains", fn := fun _ => fun
  | [d1, d2, d3] => { results := [.lit (.bool false)], args := [d1, d2, d3] }
  | _ => none }
def LockChainsWrongFalsely : Prop := lockChainsRow.holds Try.pinned (OpenSpec.ofChange lockChainsWrong)

/-- 'isochronlaw21.LockEffective': WHATEVER THE INPUT: true; the input reads as it did. -/
def lockEffectiveSpec : ChangeSpec := { name := "lockEffective", fn := fun _ => fun
  | [d] => { results := [.lit (.bool true)], args := [d] }
  | _ => none }
def lockEffectiveRow : OpenClaim := { program := "ytmdjbnicjohkjaa", sum := "349367b5ae37b7501e6cf5aada67656d316c61e39a9d9cc9491f37ea4f9b9ffa", func := "isochron/isochronlaw21.LockEffective", spec := "lockEffective", unfollowed := true, recurses := true, apart := false }
def LockEffectiveSaid : Prop := lockEffectiveRow.holds Try.pinned (OpenSpec.ofChange lockEffectiveSpec)

/-- ITS FALSE NEIGHBOUR: 'it returns false'. Refute it at one input. -/
def lockEffectiveWrong : ChangeSpec := { name := "lockEffective", fn := fun _ => fun
  | [d] => { results := [.lit (.bool false)], args := [d] }
  | _ => none }
def LockEffectiveWrongFalsely : Prop := lockEffectiveRow.holds Try.pinned (OpenSpec.ofChange lockEffectiveWrong)

/-- 'isochronlaw21.LockGoes': WHATEVER THE INPUT: true; the input reads as it did. -/
def lockGoesSpec : ChangeSpec := { name := "lockGoes", fn := fun _ => fun
  | [d] => { results := [.lit (.bool true)], args := [d] }
  | _ => none }
def lockGoesRow : OpenClaim := { program := "ytmdjbnicjohkjaa", sum := "349367b5ae37b7501e6cf5aada67656d316c61e39a9d9cc9491f37ea4f9b9ffa", func := "isochron/isochronlaw21.LockGoes", spec := "lockGoes", unfollowed := true, recurses := true, apart := false }
def LockGoesSaid : Prop := lockGoesRow.holds Try.pinned (OpenSpec.ofChange lockGoesSpec)

/-- ITS FALSE NEIGHBOUR: 'it returns false'. Refute it at one input. -/
def lockGoesWrong : ChangeSpec := { name := "lockGoes", fn := fun _ => fun
  | [d] => { results := [.lit (.bool false)], args := [d] }
  | _ => none }
def LockGoesWrongFalsely : Prop := lockGoesRow.holds Try.pinned (OpenSpec.ofChange lockGoesWrong)

/-- 'isochronlaw21.LockAsks': WHATEVER THE INPUT: true; the input reads as it did. -/
def lockAsksSpec : ChangeSpec := { name := "lockAsks", fn := fun _ => fun
  | [d1, d2, d3] => { results := [.lit (.bool true)], args := [d1, d2, d3] }
  | _ => none }
def lockAsksRow : OpenClaim := { program := "ytmdjbnicjohkjaa", sum := "349367b5ae37b7501e6cf5aada67656d316c61e39a9d9cc9491f37ea4f9b9ffa", func := "isochron/isochronlaw21.LockAsks", spec := "lockAsks", inPlace := ["slices.overlaps[int]"], unfollowed := true, recurses := true, apart := false }
def LockAsksSaid : Prop := lockAsksRow.holds Try.pinned (OpenSpec.ofChange lockAsksSpec)

/-- ITS FALSE NEIGHBOUR: 'it returns false'. Refute it at one input. -/
def lockAsksWrong : ChangeSpec := { name := "lockAsks", fn := fun _ => fun
  | [d1, d2, d3] => { results := [.lit (.bool false)], args := [d1, d2, d3] }
  | _ => none }
def LockAsksWrongFalsely : Prop := lockAsksRow.holds Try.pinned (OpenSpec.ofChange lockAsksWrong)

/-- 'isochronlaw21.LockFrees': WHATEVER THE INPUT: true; the input reads as it did. -/
def lockFreesSpec : ChangeSpec := { name := "lockFrees", fn := fun _ => fun
  | [d1, d2] => { results := [.lit (.bool true)], args := [d1, d2] }
  | _ => none }
def lockFreesRow : OpenClaim := { program := "ytmdjbnicjohkjaa", sum := "349367b5ae37b7501e6cf5aada67656d316c61e39a9d9cc9491f37ea4f9b9ffa", func := "isochron/isochronlaw21.LockFrees", spec := "lockFrees", inPlace := ["slices.overlaps[int]"], unfollowed := true, recurses := true, apart := false }
def LockFreesSaid : Prop := lockFreesRow.holds Try.pinned (OpenSpec.ofChange lockFreesSpec)

/-- ITS FALSE NEIGHBOUR: 'it returns false'. Refute it at one input. -/
def lockFreesWrong : ChangeSpec := { name := "lockFrees", fn := fun _ => fun
  | [d1, d2] => { results := [.lit (.bool false)], args := [d1, d2] }
  | _ => none }
def LockFreesWrongFalsely : Prop := lockFreesRow.holds Try.pinned (OpenSpec.ofChange lockFreesWrong)

/-- 'isochronlaw21.LockRaises': WHATEVER THE INPUT: true; the input reads as it did. -/
def lockRaisesSpec : ChangeSpec := { name := "lockRaises", fn := fun _ => fun
  | [d1, d2, d3] => { results := [.lit (.bool true)], args := [d1, d2, d3] }
  | _ => none }
def lockRaisesRow : OpenClaim := { program := "ytmdjbnicjohkjaa", sum := "349367b5ae37b7501e6cf5aada67656d316c61e39a9d9cc9491f37ea4f9b9ffa", func := "isochron/isochronlaw21.LockRaises", spec := "lockRaises", unfollowed := true, recurses := true, apart := false }
def LockRaisesSaid : Prop := lockRaisesRow.holds Try.pinned (OpenSpec.ofChange lockRaisesSpec)

/-- ITS FALSE NEIGHBOUR: 'it returns false'. Refute it at one input. -/
def lockRaisesWrong : ChangeSpec := { name := "lockRaises", fn := fun _ => fun
  | [d1, d2, d3] => { results := [.lit (.bool false)], args := [d1, d2, d3] }
  | _ => none }
def LockRaisesWrongFalsely : Prop := lockRaisesRow.holds Try.pinned (OpenSpec.ofChange lockRaisesWrong)

/-- 'isochronlaw21.LockLets': WHATEVER THE INPUT: true; the input reads as it did. -/
def lockLetsSpec : ChangeSpec := { name := "lockLets", fn := fun _ => fun
  | [d1, d2, d3] => { results := [.lit (.bool true)], args := [d1, d2, d3] }
  | _ => none }
def lockLetsRow : OpenClaim := { program := "ytmdjbnicjohkjaa", sum := "349367b5ae37b7501e6cf5aada67656d316c61e39a9d9cc9491f37ea4f9b9ffa", func := "isochron/isochronlaw21.LockLets", spec := "lockLets", inPlace := ["slices.overlaps[int]"], unfollowed := true, recurses := true, apart := false }
def LockLetsSaid : Prop := lockLetsRow.holds Try.pinned (OpenSpec.ofChange lockLetsSpec)

/-- ITS FALSE NEIGHBOUR: 'it returns false'. Refute it at one input. -/
def lockLetsWrong : ChangeSpec := { name := "lockLets", fn := fun _ => fun
  | [d1, d2, d3] => { results := [.lit (.bool false)], args := [d1, d2, d3] }
  | _ => none }
def LockLetsWrongFalsely : Prop := lockLetsRow.holds Try.pinned (OpenSpec.ofChange lockLetsWrong)

/-- 'isochronlaw21.LockCeilings': WHATEVER THE INPUT: true; the input reads as it did. -/
def lockCeilingsSpec : ChangeSpec := { name := "lockCeilings", fn := fun _ => fun
  | [d] => { results := [.lit (.bool true)], args := [d] }
  | _ => none }
def lockCeilingsRow : OpenClaim := { program := "ytmdjbnicjohkjaa", sum := "349367b5ae37b7501e6cf5aada67656d316c61e39a9d9cc9491f37ea4f9b9ffa", func := "isochron/isochronlaw21.LockCeilings", spec := "lockCeilings", unfollowed := true, recurses := true, apart := false }
def LockCeilingsSaid : Prop := lockCeilingsRow.holds Try.pinned (OpenSpec.ofChange lockCeilingsSpec)

/-- ITS FALSE NEIGHBOUR: 'it returns false'. Refute it at one input. -/
def lockCeilingsWrong : ChangeSpec := { name := "lockCeilings", fn := fun _ => fun
  | [d] => { results := [.lit (.bool false)], args := [d] }
  | _ => none }
def LockCeilingsWrongFalsely : Prop := lockCeilingsRow.holds Try.pinned (OpenSpec.ofChange lockCeilingsWrong)

/-- 'isochronlaw21.LockBlocks': WHATEVER THE INPUT: true; the input reads as it did. -/
def lockBlocksSpec : ChangeSpec := { name := "lockBlocks", fn := fun _ => fun
  | [d1, d2] => { results := [.lit (.bool true)], args := [d1, d2] }
  | _ => none }
def lockBlocksRow : OpenClaim := { program := "ytmdjbnicjohkjaa", sum := "349367b5ae37b7501e6cf5aada67656d316c61e39a9d9cc9491f37ea4f9b9ffa", func := "isochron/isochronlaw21.LockBlocks", spec := "lockBlocks", unfollowed := true, recurses := true, apart := false }
def LockBlocksSaid : Prop := lockBlocksRow.holds Try.pinned (OpenSpec.ofChange lockBlocksSpec)

/-- ITS FALSE NEIGHBOUR: 'it returns false'. Refute it at one input. -/
def lockBlocksWrong : ChangeSpec := { name := "lockBlocks", fn := fun _ => fun
  | [d1, d2] => { results := [.lit (.bool false)], args := [d1, d2] }
  | _ => none }
def LockBlocksWrongFalsely : Prop := lockBlocksRow.holds Try.pinned (OpenSpec.ofChange lockBlocksWrong)

/-- 'isochronlaw21.LockLives': WHATEVER THE INPUT: true; the input reads as it did. -/
def lockLivesSpec : ChangeSpec := { name := "lockLives", fn := fun _ => fun
  | [d1, d2] => { results := [.lit (.bool true)], args := [d1, d2] }
  | _ => none }
def lockLivesRow : OpenClaim := { program := "ytmdjbnicjohkjaa", sum := "349367b5ae37b7501e6cf5aada67656d316c61e39a9d9cc9491f37ea4f9b9ffa", func := "isochron/isochronlaw21.LockLives", spec := "lockLives", inPlace := ["slices.overlaps[int]"], unfollowed := true, recurses := true, apart := false }
def LockLivesSaid : Prop := lockLivesRow.holds Try.pinned (OpenSpec.ofChange lockLivesSpec)

/-- ITS FALSE NEIGHBOUR: 'it returns false'. Refute it at one input. -/
def lockLivesWrong : ChangeSpec := { name := "lockLives", fn := fun _ => fun
  | [d1, d2] => { results := [.lit (.bool false)], args := [d1, d2] }
  | _ => none }
def LockLivesWrongFalsely : Prop := lockLivesRow.holds Try.pinned (OpenSpec.ofChange lockLivesWrong)

/- THE SECOND FORM. 'bulk': how many values and letters a reading holds, each counted each time it is reached (what is shared counts as often as it is met; a slice's spare places count too). A statement '..UptoSaid' is the law's where the arguments, and the package variables that the reading takes, are together of bulk at most 1048576: NARROWER than '..Said'. Prove '..Said' where nothing that the law and all that it calls make is longer than what came in: it says more and counts as full. Else prove '..UptoSaid'. A law counts once. -/
mutual
def uptoBulk {H : Type} : DataW H → Nat
  | .lit (.string bytes) => bytes.length + 1
  | .lit _ => 1
  | .nil => 1
  | .ptr d => uptoBulk d + 1
  | .slice elems spare => uptoBulkAll elems + uptoBulkAll spare + 1
  | .agg parts => uptoBulkAll parts + 1
  | .iface _ d => uptoBulk d + 1
  | .map entries => uptoBulkEntries entries + 1
  | .held _ => 1
def uptoBulkAll {H : Type} : List (DataW H) → Nat
  | [] => 0
  | d :: r => uptoBulk d + uptoBulkAll r
def uptoBulkEntries {H : Type} : List (Lit × DataW H) → Nat
  | [] => 0
  | x :: r => uptoBulkEntry x + uptoBulkEntries r
def uptoBulkEntry {H : Type} : Lit × DataW H → Nat
  | (.string bytes, d) => bytes.length + uptoBulk d + 1
  | (_, d) => uptoBulk d + 1
 end
def uptoSmall : (H : Type) → List (DataW H) → Bool := fun _ ds => decide (uptoBulkAll ds ≤ 1048576)
def OpenSpec.upto (s : _root_.Go.ChangeSpec) : _root_.Go.OpenSpec := { _root_.Go.OpenSpec.ofChange s with cond := some uptoSmall }

/-- 'isochronlaw21.LockChains', WHERE WHAT IT READS IS OF BULK AT MOST 1048576: true; the input reads as it did. -/
def lockChainsUptoRow : OpenClaim := { program := "ytmdjbnicjohkjaa", sum := "349367b5ae37b7501e6cf5aada67656d316c61e39a9d9cc9491f37ea4f9b9ffa", func := "isochron/isochronlaw21.LockChains", spec := "lockChains", unfollowed := true, recurses := true, apart := false, narrowed := true }
def LockChainsUptoSaid : Prop := lockChainsUptoRow.holds Try.pinned (OpenSpec.upto lockChainsSpec)

/-- 'isochronlaw21.LockEffective', WHERE WHAT IT READS IS OF BULK AT MOST 1048576: true; the input reads as it did. -/
def lockEffectiveUptoRow : OpenClaim := { program := "ytmdjbnicjohkjaa", sum := "349367b5ae37b7501e6cf5aada67656d316c61e39a9d9cc9491f37ea4f9b9ffa", func := "isochron/isochronlaw21.LockEffective", spec := "lockEffective", unfollowed := true, recurses := true, apart := false, narrowed := true }
def LockEffectiveUptoSaid : Prop := lockEffectiveUptoRow.holds Try.pinned (OpenSpec.upto lockEffectiveSpec)

/-- 'isochronlaw21.LockGoes', WHERE WHAT IT READS IS OF BULK AT MOST 1048576: true; the input reads as it did. -/
def lockGoesUptoRow : OpenClaim := { program := "ytmdjbnicjohkjaa", sum := "349367b5ae37b7501e6cf5aada67656d316c61e39a9d9cc9491f37ea4f9b9ffa", func := "isochron/isochronlaw21.LockGoes", spec := "lockGoes", unfollowed := true, recurses := true, apart := false, narrowed := true }
def LockGoesUptoSaid : Prop := lockGoesUptoRow.holds Try.pinned (OpenSpec.upto lockGoesSpec)

/-- 'isochronlaw21.LockAsks', WHERE WHAT IT READS IS OF BULK AT MOST 1048576: true; the input reads as it did. -/
def lockAsksUptoRow : OpenClaim := { program := "ytmdjbnicjohkjaa", sum := "349367b5ae37b7501e6cf5aada67656d316c61e39a9d9cc9491f37ea4f9b9ffa", func := "isochron/isochronlaw21.LockAsks", spec := "lockAsks", inPlace := ["slices.overlaps[int]"], unfollowed := true, recurses := true, apart := false, narrowed := true }
def LockAsksUptoSaid : Prop := lockAsksUptoRow.holds Try.pinned (OpenSpec.upto lockAsksSpec)

/-- 'isochronlaw21.LockFrees', WHERE WHAT IT READS IS OF BULK AT MOST 1048576: true; the input reads as it did. -/
def lockFreesUptoRow : OpenClaim := { program := "ytmdjbnicjohkjaa", sum := "349367b5ae37b7501e6cf5aada67656d316c61e39a9d9cc9491f37ea4f9b9ffa", func := "isochron/isochronlaw21.LockFrees", spec := "lockFrees", inPlace := ["slices.overlaps[int]"], unfollowed := true, recurses := true, apart := false, narrowed := true }
def LockFreesUptoSaid : Prop := lockFreesUptoRow.holds Try.pinned (OpenSpec.upto lockFreesSpec)

/-- 'isochronlaw21.LockRaises', WHERE WHAT IT READS IS OF BULK AT MOST 1048576: true; the input reads as it did. -/
def lockRaisesUptoRow : OpenClaim := { program := "ytmdjbnicjohkjaa", sum := "349367b5ae37b7501e6cf5aada67656d316c61e39a9d9cc9491f37ea4f9b9ffa", func := "isochron/isochronlaw21.LockRaises", spec := "lockRaises", unfollowed := true, recurses := true, apart := false, narrowed := true }
def LockRaisesUptoSaid : Prop := lockRaisesUptoRow.holds Try.pinned (OpenSpec.upto lockRaisesSpec)

/-- 'isochronlaw21.LockLets', WHERE WHAT IT READS IS OF BULK AT MOST 1048576: true; the input reads as it did. -/
def lockLetsUptoRow : OpenClaim := { program := "ytmdjbnicjohkjaa", sum := "349367b5ae37b7501e6cf5aada67656d316c61e39a9d9cc9491f37ea4f9b9ffa", func := "isochron/isochronlaw21.LockLets", spec := "lockLets", inPlace := ["slices.overlaps[int]"], unfollowed := true, recurses := true, apart := false, narrowed := true }
def LockLetsUptoSaid : Prop := lockLetsUptoRow.holds Try.pinned (OpenSpec.upto lockLetsSpec)

/-- 'isochronlaw21.LockCeilings', WHERE WHAT IT READS IS OF BULK AT MOST 1048576: true; the input reads as it did. -/
def lockCeilingsUptoRow : OpenClaim := { program := "ytmdjbnicjohkjaa", sum := "349367b5ae37b7501e6cf5aada67656d316c61e39a9d9cc9491f37ea4f9b9ffa", func := "isochron/isochronlaw21.LockCeilings", spec := "lockCeilings", unfollowed := true, recurses := true, apart := false, narrowed := true }
def LockCeilingsUptoSaid : Prop := lockCeilingsUptoRow.holds Try.pinned (OpenSpec.upto lockCeilingsSpec)

/-- 'isochronlaw21.LockBlocks', WHERE WHAT IT READS IS OF BULK AT MOST 1048576: true; the input reads as it did. -/
def lockBlocksUptoRow : OpenClaim := { program := "ytmdjbnicjohkjaa", sum := "349367b5ae37b7501e6cf5aada67656d316c61e39a9d9cc9491f37ea4f9b9ffa", func := "isochron/isochronlaw21.LockBlocks", spec := "lockBlocks", unfollowed := true, recurses := true, apart := false, narrowed := true }
def LockBlocksUptoSaid : Prop := lockBlocksUptoRow.holds Try.pinned (OpenSpec.upto lockBlocksSpec)

/-- 'isochronlaw21.LockLives', WHERE WHAT IT READS IS OF BULK AT MOST 1048576: true; the input reads as it did. -/
def lockLivesUptoRow : OpenClaim := { program := "ytmdjbnicjohkjaa", sum := "349367b5ae37b7501e6cf5aada67656d316c61e39a9d9cc9491f37ea4f9b9ffa", func := "isochron/isochronlaw21.LockLives", spec := "lockLives", inPlace := ["slices.overlaps[int]"], unfollowed := true, recurses := true, apart := false, narrowed := true }
def LockLivesUptoSaid : Prop := lockLivesUptoRow.holds Try.pinned (OpenSpec.upto lockLivesSpec)

end Rows
end Go.Proofs.Ytmdjbnicjohkjaa
