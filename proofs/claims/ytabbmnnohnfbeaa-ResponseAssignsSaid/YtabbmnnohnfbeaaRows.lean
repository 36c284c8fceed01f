/-
  No cell of these rows narrows 'for every input' (looked for: loops, veiled, ifaces, maps, wideKeys, modest, calm, conditions, laid).
  DERIVED. THE GIVEN ROWS OF THIS SEAT. 12 by the template 'for every input the law returns true; each argument reads behind the call as it read before'; 0 by the template 'total and deterministic' (their statements: YtabbmnnohnfbeaaTotals.lean).
  GIVEN WITH THE SEED: the statements are not yours to turn. If you find one false, say at which input.
  Laid BY PROGRAM, IN A SANDBOX (cutbox-rows.mjs): the forced cells as the released guide's own fill.sh prints them over the translation cdadec56dbde62c9… (all of the seat's roots in one cut). By AI agents, Wed Nov 11 2026. No macro, syntax, notation, axiom, sorry.
-/
import Derived.Test.YtabbmnnohnfbeaaChecked
import GoSem.Claim
import GoSem.ClaimJoined
import GoSem.ClaimMapViews
import Derived.JoinedTies
import Derived.KernelRfl
namespace Go.Proofs.Ytabbmnnohnfbeaa
/- THE CELL 'sum', in the pinned program and in every row, IS THE sha256 OF THE DUMP (.gsa) THAT YtabbmnnohnfbeaaProg.lean LOADS. Nothing in Lean hashes anything: it is a label: what it is worth is what the hold of that sum in a sandbox is worth. -/
noncomputable def Try.pinned : Pinned := { name := "ytabbmnnohnfbeaa", sum := "cdadec56dbde62c9a7667ea649d4dd22cdbdf9f422a3bb827e4f350a51f385f8", checked := Try.checked }
namespace Rows
def none {H : Type} : Left H := { results := [], args := [] }

/-- 'isochronlaw25.ResponseFewer': WHATEVER THE INPUT: true; the input reads as it did. -/
def responseFewerSpec : ChangeSpec := { name := "responseFewer", fn := fun _ => fun
  | [d1, d2, d3] => { results := [.lit (.bool true)], args := [d1, d2, d3] }
  | _ => none }
def responseFewerRow : OpenClaim := { program := "ytabbmnnohnfbeaa", sum := "cdadec56dbde62c9a7667ea649d4dd22cdbdf9f422a3bb827e4f350a51f385f8", func := "isochron/isochronlaw25.ResponseFewer", spec := "responseFewer", unfollowed := true, recurses := true, apart := false }
def ResponseFewerSaid : Prop := responseFewerRow.holds Try.pinned (OpenSpec.ofChange responseFewerSpec)

/-- ITS FALSE NEIGHBOUR: 'it returns false'. Refute it at one input. -/
def responseFewerWrong : ChangeSpec := { name := "responseFewer", fn := fun _ => fun
  | [d1, d2, d3] => { results := [.lit (.bool false)], args := [d1, d2, d3] }
  | _ => none }
def ResponseFewerWrongFalsely : Prop := responseFewerRow.holds Try.pinned (OpenSpec.ofChange responseFewerWrong)

/-- 'isochronlaw25.ResponseWindows': WHATEVER THE INPUT: true; the input reads as it did. -/
def responseWindowsSpec : ChangeSpec := { name := "responseWindows", fn := fun _ => fun
  | [d1, d2, d3] => { results := [.lit (.bool true)], args := [d1, d2, d3] }
  | _ => none }
def responseWindowsRow : OpenClaim := { program := "ytabbmnnohnfbeaa", sum := "cdadec56dbde62c9a7667ea649d4dd22cdbdf9f422a3bb827e4f350a51f385f8", func := "isochron/isochronlaw25.ResponseWindows", spec := "responseWindows", unfollowed := true, recurses := true, apart := false }
def ResponseWindowsSaid : Prop := responseWindowsRow.holds Try.pinned (OpenSpec.ofChange responseWindowsSpec)

/-- ITS FALSE NEIGHBOUR: 'it returns false'. Refute it at one input. -/
def responseWindowsWrong : ChangeSpec := { name := "responseWindows", fn := fun _ => fun
  | [d1, d2, d3] => { results := [.lit (.bool false)], args := [d1, d2, d3] }
  | _ => none }
def ResponseWindowsWrongFalsely : Prop := responseWindowsRow.holds Try.pinned (OpenSpec.ofChange responseWindowsWrong)

/-- 'isochronlaw25.ResponseSlices': WHATEVER THE INPUT: true; the input reads as it did. -/
def responseSlicesSpec : ChangeSpec := { name := "responseSlices", fn := fun _ => fun
  | [d1, d2] => { results := [.lit (.bool true)], args := [d1, d2] }
  | _ => none }
def responseSlicesRow : OpenClaim := { program := "ytabbmnnohnfbeaa", sum := "cdadec56dbde62c9a7667ea649d4dd22cdbdf9f422a3bb827e4f350a51f385f8", func := "isochron/isochronlaw25.ResponseSlices", spec := "responseSlices", unfollowed := true, recurses := true, apart := false }
def ResponseSlicesSaid : Prop := responseSlicesRow.holds Try.pinned (OpenSpec.ofChange responseSlicesSpec)

/-- ITS FALSE NEIGHBOUR: 'it returns false'. Refute it at one input. -/
def responseSlicesWrong : ChangeSpec := { name := "responseSlices", fn := fun _ => fun
  | [d1, d2] => { results := [.lit (.bool false)], args := [d1, d2] }
  | _ => none }
def ResponseSlicesWrongFalsely : Prop := responseSlicesRow.holds Try.pinned (OpenSpec.ofChange responseSlicesWrong)

/-- 'isochronlaw25.ResponseDemands': WHATEVER THE INPUT: true; the input reads as it did. -/
def responseDemandsSpec : ChangeSpec := { name := "responseDemands", fn := fun _ => fun
  | [d1, d2, d3] => { results := [.lit (.bool true)], args := [d1, d2, d3] }
  | _ => none }
def responseDemandsRow : OpenClaim := { program := "ytabbmnnohnfbeaa", sum := "cdadec56dbde62c9a7667ea649d4dd22cdbdf9f422a3bb827e4f350a51f385f8", func := "isochron/isochronlaw25.ResponseDemands", spec := "responseDemands", unfollowed := true, recurses := true, apart := false }
def ResponseDemandsSaid : Prop := responseDemandsRow.holds Try.pinned (OpenSpec.ofChange responseDemandsSpec)

/-- ITS FALSE NEIGHBOUR: 'it returns false'. Refute it at one input. -/
def responseDemandsWrong : ChangeSpec := { name := "responseDemands", fn := fun _ => fun
  | [d1, d2, d3] => { results := [.lit (.bool false)], args := [d1, d2, d3] }
  | _ => none }
def ResponseDemandsWrongFalsely : Prop := responseDemandsRow.holds Try.pinned (OpenSpec.ofChange responseDemandsWrong)

/-- 'isochronlaw25.ResponseClaims': WHATEVER THE INPUT: true; the input reads as it did. -/
def responseClaimsSpec : ChangeSpec := { name := "responseClaims", fn := fun _ => fun
  | [d1, d2, d3] => { results := [.lit (.bool true)], args := [d1, d2, d3] }
  | _ => none }
def responseClaimsRow : OpenClaim := { program := "ytabbmnnohnfbeaa", sum := "cdadec56dbde62c9a7667ea649d4dd22cdbdf9f422a3bb827e4f350a51f385f8", func := "isochron/isochronlaw25.ResponseClaims", spec := "responseClaims", unfollowed := true, recurses := true, apart := false }
def ResponseClaimsSaid : Prop := responseClaimsRow.holds Try.pinned (OpenSpec.ofChange responseClaimsSpec)

/-- ITS FALSE NEIGHBOUR: 'it returns false'. Refute it at one input. -/
def responseClaimsWrong : ChangeSpec := { name := "responseClaims", fn := fun _ => fun
  | [d1, d2, d3] => { results := [.lit (.bool false)], args := [d1, d2, d3] }
  | _ => none }
def ResponseClaimsWrongFalsely : Prop := responseClaimsRow.holds Try.pinned (OpenSpec.ofChange responseClaimsWrong)

/-- 'isochronlaw25.ResponseAccepts': WHATEVER THE INPUT: true; the input reads as it did. -/
def responseAcceptsSpec : ChangeSpec := { name := "responseAccepts", fn := fun _ => fun
  | [d1, d2] => { results := [.lit (.bool true)], args := [d1, d2] }
  | _ => none }
def responseAcceptsRow : OpenClaim := { program := "ytabbmnnohnfbeaa", sum := "cdadec56dbde62c9a7667ea649d4dd22cdbdf9f422a3bb827e4f350a51f385f8", func := "isochron/isochronlaw25.ResponseAccepts", spec := "responseAccepts", unfollowed := true, recurses := true, apart := false }
def ResponseAcceptsSaid : Prop := responseAcceptsRow.holds Try.pinned (OpenSpec.ofChange responseAcceptsSpec)

/-- ITS FALSE NEIGHBOUR: 'it returns false'. Refute it at one input. -/
def responseAcceptsWrong : ChangeSpec := { name := "responseAccepts", fn := fun _ => fun
  | [d1, d2] => { results := [.lit (.bool false)], args := [d1, d2] }
  | _ => none }
def ResponseAcceptsWrongFalsely : Prop := responseAcceptsRow.holds Try.pinned (OpenSpec.ofChange responseAcceptsWrong)

/-- 'isochronlaw25.ResponseBetters': WHATEVER THE INPUT: true; the input reads as it did. -/
def responseBettersSpec : ChangeSpec := { name := "responseBetters", fn := fun _ => fun
  | [d1, d2, d3] => { results := [.lit (.bool true)], args := [d1, d2, d3] }
  | _ => none }
def responseBettersRow : OpenClaim := { program := "ytabbmnnohnfbeaa", sum := "cdadec56dbde62c9a7667ea649d4dd22cdbdf9f422a3bb827e4f350a51f385f8", func := "isochron/isochronlaw25.ResponseBetters", spec := "responseBetters", unfollowed := true, recurses := true, apart := false }
def ResponseBettersSaid : Prop := responseBettersRow.holds Try.pinned (OpenSpec.ofChange responseBettersSpec)

/-- ITS FALSE NEIGHBOUR: 'it returns false'. Refute it at one input. -/
def responseBettersWrong : ChangeSpec := { name := "responseBetters", fn := fun _ => fun
  | [d1, d2, d3] => { results := [.lit (.bool false)], args := [d1, d2, d3] }
  | _ => none }
def ResponseBettersWrongFalsely : Prop := responseBettersRow.holds Try.pinned (OpenSpec.ofChange responseBettersWrong)

/-- 'isochronlaw25.ResponseSustains': WHATEVER THE INPUT: true; the input reads as it did. -/
def responseSustainsSpec : ChangeSpec := { name := "responseSustains", fn := fun _ => fun
  | [d1, d2, d3] => { results := [.lit (.bool true)], args := [d1, d2, d3] }
  | _ => none }
def responseSustainsRow : OpenClaim := { program := "ytabbmnnohnfbeaa", sum := "cdadec56dbde62c9a7667ea649d4dd22cdbdf9f422a3bb827e4f350a51f385f8", func := "isochron/isochronlaw25.ResponseSustains", spec := "responseSustains", unfollowed := true, recurses := true, apart := false }
def ResponseSustainsSaid : Prop := responseSustainsRow.holds Try.pinned (OpenSpec.ofChange responseSustainsSpec)

/-- ITS FALSE NEIGHBOUR: 'it returns false'. Refute it at one input. -/
def responseSustainsWrong : ChangeSpec := { name := "responseSustains", fn := fun _ => fun
  | [d1, d2, d3] => { results := [.lit (.bool false)], args := [d1, d2, d3] }
  | _ => none }
def ResponseSustainsWrongFalsely : Prop := responseSustainsRow.holds Try.pinned (OpenSpec.ofChange responseSustainsWrong)

/-- 'isochronlaw25.ResponseSlacks': WHATEVER THE INPUT: true; the input reads as it did. -/
def responseSlacksSpec : ChangeSpec := { name := "responseSlacks", fn := fun _ => fun
  | [d1, d2, d3] => { results := [.lit (.bool true)], args := [d1, d2, d3] }
  | _ => none }
def responseSlacksRow : OpenClaim := { program := "ytabbmnnohnfbeaa", sum := "cdadec56dbde62c9a7667ea649d4dd22cdbdf9f422a3bb827e4f350a51f385f8", func := "isochron/isochronlaw25.ResponseSlacks", spec := "responseSlacks", unfollowed := true, recurses := true, apart := false }
def ResponseSlacksSaid : Prop := responseSlacksRow.holds Try.pinned (OpenSpec.ofChange responseSlacksSpec)

/-- ITS FALSE NEIGHBOUR: 'it returns false'. Refute it at one input. -/
def responseSlacksWrong : ChangeSpec := { name := "responseSlacks", fn := fun _ => fun
  | [d1, d2, d3] => { results := [.lit (.bool false)], args := [d1, d2, d3] }
  | _ => none }
def ResponseSlacksWrongFalsely : Prop := responseSlacksRow.holds Try.pinned (OpenSpec.ofChange responseSlacksWrong)

/-- 'isochronlaw25.ResponseLoads': WHATEVER THE INPUT: true; the input reads as it did. -/
def responseLoadsSpec : ChangeSpec := { name := "responseLoads", fn := fun _ => fun
  | [d1, d2] => { results := [.lit (.bool true)], args := [d1, d2] }
  | _ => none }
def responseLoadsRow : OpenClaim := { program := "ytabbmnnohnfbeaa", sum := "cdadec56dbde62c9a7667ea649d4dd22cdbdf9f422a3bb827e4f350a51f385f8", func := "isochron/isochronlaw25.ResponseLoads", spec := "responseLoads", unfollowed := true, recurses := true, apart := false }
def ResponseLoadsSaid : Prop := responseLoadsRow.holds Try.pinned (OpenSpec.ofChange responseLoadsSpec)

/-- ITS FALSE NEIGHBOUR: 'it returns false'. Refute it at one input. -/
def responseLoadsWrong : ChangeSpec := { name := "responseLoads", fn := fun _ => fun
  | [d1, d2] => { results := [.lit (.bool false)], args := [d1, d2] }
  | _ => none }
def ResponseLoadsWrongFalsely : Prop := responseLoadsRow.holds Try.pinned (OpenSpec.ofChange responseLoadsWrong)

/-- 'isochronlaw25.ResponseAssigns': WHATEVER THE INPUT: true; the input reads as it did. -/
def responseAssignsSpec : ChangeSpec := { name := "responseAssigns", fn := fun _ => fun
  | [d1, d2] => { results := [.lit (.bool true)], args := [d1, d2] }
  | _ => none }
def responseAssignsRow : OpenClaim := { program := "ytabbmnnohnfbeaa", sum := "cdadec56dbde62c9a7667ea649d4dd22cdbdf9f422a3bb827e4f350a51f385f8", func := "isochron/isochronlaw25.ResponseAssigns", spec := "responseAssigns", unfollowed := true, recurses := true, apart := false }
def ResponseAssignsSaid : Prop := responseAssignsRow.holds Try.pinned (OpenSpec.ofChange responseAssignsSpec)

/-- ITS FALSE NEIGHBOUR: 'it returns false'. Refute it at one input. -/
def responseAssignsWrong : ChangeSpec := { name := "responseAssigns", fn := fun _ => fun
  | [d1, d2] => { results := [.lit (.bool false)], args := [d1, d2] }
  | _ => none }
def ResponseAssignsWrongFalsely : Prop := responseAssignsRow.holds Try.pinned (OpenSpec.ofChange responseAssignsWrong)

/-- 'isochronlaw25.ResponseFinds': WHATEVER THE INPUT: true; the input reads as it did. -/
def responseFindsSpec : ChangeSpec := { name := "responseFinds", fn := fun _ => fun
  | [d1, d2] => { results := [.lit (.bool true)], args := [d1, d2] }
  | _ => none }
def responseFindsRow : OpenClaim := { program := "ytabbmnnohnfbeaa", sum := "cdadec56dbde62c9a7667ea649d4dd22cdbdf9f422a3bb827e4f350a51f385f8", func := "isochron/isochronlaw25.ResponseFinds", spec := "responseFinds", unfollowed := true, recurses := true, apart := false }
def ResponseFindsSaid : Prop := responseFindsRow.holds Try.pinned (OpenSpec.ofChange responseFindsSpec)

/-- ITS FALSE NEIGHBOUR: 'it returns false'. Refute it at one input. -/
def responseFindsWrong : ChangeSpec := { name := "responseFinds", fn := fun _ => fun
  | [d1, d2] => { results := [.lit (.bool false)], args := [d1, d2] }
  | _ => none }
def ResponseFindsWrongFalsely : Prop := responseFindsRow.holds Try.pinned (OpenSpec.ofChange responseFindsWrong)

/- THE SECOND FORM. 'bulk': how many values and letters a reading holds, each counted each time it is reached (what is shared counts as often as it is met; a slice's spare places count too). A statement '..UptoSaid' is the law's where the arguments, and the package variables that the reading takes, are together of bulk at most 1048576: NARROWER than '..Said'. Prove '..Said' where nothing that the law and all that it calls make is longer than what came in: it says more and counts as full. Else prove '..UptoSaid'. A law counts once. -/
mutual
def uptoBulk {H : Type} : DataW H → Nat
  | .lit (.string bytes) => bytes.length + 1
  | .lit _ => 1
  | .nil => 1
  | .ptr d => uptoBulk d + 1
  | .slice elems spare => uptoBulkAll elems + uptoBulkAll spare + 1
  | .agg parts => uptoBulkAll parts + 1
  | .iface _ d => uptoBulk d + 1
  | .map entries => uptoBulkEntries entries + 1
  | .held _ => 1
def uptoBulkAll {H : Type} : List (DataW H) → Nat
  | [] => 0
  | d :: r => uptoBulk d + uptoBulkAll r
def uptoBulkEntries {H : Type} : List (Lit × DataW H) → Nat
  | [] => 0
  | x :: r => uptoBulkEntry x + uptoBulkEntries r
def uptoBulkEntry {H : Type} : Lit × DataW H → Nat
  | (.string bytes, d) => bytes.length + uptoBulk d + 1
  | (_, d) => uptoBulk d + 1
 end
def uptoSmall : (H : Type) → List (DataW H) → Bool := fun _ ds => decide (uptoBulkAll ds ≤ 1048576)
def OpenSpec.upto (s : _root_.Go.ChangeSpec) : _root_.Go.OpenSpec := { _root_.Go.OpenSpec.ofChange s with cond := some uptoSmall }

/-- 'isochronlaw25.ResponseFewer', WHERE WHAT IT READS IS OF BULK AT MOST 1048576: true; the input reads as it did. -/
def responseFewerUptoRow : OpenClaim := { program := "ytabbmnnohnfbeaa", sum := "cdadec56dbde62c9a7667ea649d4dd22cdbdf9f422a3bb827e4f350a51f385f8", func := "isochron/isochronlaw25.ResponseFewer", spec := "responseFewer", unfollowed := true, recurses := true, apart := false, narrowed := true }
def ResponseFewerUptoSaid : Prop := responseFewerUptoRow.holds Try.pinned (OpenSpec.upto responseFewerSpec)

/-- 'isochronlaw25.ResponseWindows', WHERE WHAT IT READS IS OF BULK AT MOST 1048576: true; the input reads as it did. -/
def responseWindowsUptoRow : OpenClaim := { program := "ytabbmnnohnfbeaa", sum := "cdadec56dbde62c9a7667ea649d4dd22cdbdf9f422a3bb827e4f350a51f385f8", func := "isochron/isochronlaw25.ResponseWindows", spec := "responseWindows", unfollowed := true, recurses := true, apart := false, narrowed := true }
def ResponseWindowsUptoSaid : Prop := responseWindowsUptoRow.holds Try.pinned (OpenSpec.upto responseWindowsSpec)

/-- 'isochronlaw25.ResponseSlices', WHERE WHAT IT READS IS OF BULK AT MOST 1048576: true; the input reads as it did. -/
def responseSlicesUptoRow : OpenClaim := { program := "ytabbmnnohnfbeaa", sum := "cdadec56dbde62c9a7667ea649d4dd22cdbdf9f422a3bb827e4f350a51f385f8", func := "isochron/isochronlaw25.ResponseSlices", spec := "responseSlices", unfollowed := true, recurses := true, apart := false, narrowed := true }
def ResponseSlicesUptoSaid : Prop := responseSlicesUptoRow.holds Try.pinned (OpenSpec.upto responseSlicesSpec)

/-- 'isochronlaw25.ResponseDemands', WHERE WHAT IT READS IS OF BULK AT MOST 1048576: true; the input reads as it did. -/
def responseDemandsUptoRow : OpenClaim := { program := "ytabbmnnohnfbeaa", sum := "cdadec56dbde62c9a7667ea649d4dd22cdbdf9f422a3bb827e4f350a51f385f8", func := "isochron/isochronlaw25.ResponseDemands", spec := "responseDemands", unfollowed := true, recurses := true, apart := false, narrowed := true }
def ResponseDemandsUptoSaid : Prop := responseDemandsUptoRow.holds Try.pinned (OpenSpec.upto responseDemandsSpec)

/-- 'isochronlaw25.ResponseClaims', WHERE WHAT IT READS IS OF BULK AT MOST 1048576: true; the input reads as it did. -/
def responseClaimsUptoRow : OpenClaim := { program := "ytabbmnnohnfbeaa", sum := "cdadec56dbde62c9a7667ea649d4dd22cdbdf9f422a3bb827e4f350a51f385f8", func := "isochron/isochronlaw25.ResponseClaims", spec := "responseClaims", unfollowed := true, recurses := true, apart := false, narrowed := true }
def ResponseClaimsUptoSaid : Prop := responseClaimsUptoRow.holds Try.pinned (OpenSpec.upto responseClaimsSpec)

/-- 'isochronlaw25.ResponseAccepts', WHERE WHAT IT READS IS OF BULK AT MOST 1048576: true; the input reads as it did. -/
def responseAcceptsUptoRow : OpenClaim := { program := "ytabbmnnohnfbeaa", sum := "cdadec56dbde62c9a7667ea649d4dd22cdbdf9f422a3bb827e4f350a51f385f8", func := "isochron/isochronlaw25.ResponseAccepts", spec := "responseAccepts", unfollowed := true, recurses := true, apart := false, narrowed := true }
def ResponseAcceptsUptoSaid : Prop := responseAcceptsUptoRow.holds Try.pinned (OpenSpec.upto responseAcceptsSpec)

/-- 'isochronlaw25.ResponseBetters', WHERE WHAT IT READS IS OF BULK AT MOST 1048576: true; the input reads as it did. -/
def responseBettersUptoRow : OpenClaim := { program := "ytabbmnnohnfbeaa", sum := "cdadec56dbde62c9a7667ea649d4dd22cdbdf9f422a3bb827e4f350a51f385f8", func := "isochron/isochronlaw25.ResponseBetters", spec := "responseBetters", unfollowed := true, recurses := true, apart := false, narrowed := true }
def ResponseBettersUptoSaid : Prop := responseBettersUptoRow.holds Try.pinned (OpenSpec.upto responseBettersSpec)

/-- 'isochronlaw25.ResponseSustains', WHERE WHAT IT READS IS OF BULK AT MOST 1048576: true; the input reads as it did. -/
def responseSustainsUptoRow : OpenClaim := { program := "ytabbmnnohnfbeaa", sum := "cdadec56dbde62c9a7667ea649d4dd22cdbdf9f422a3bb827e4f350a51f385f8", func := "isochron/isochronlaw25.ResponseSustains", spec := "responseSustains", unfollowed := true, recurses := true, apart := false, narrowed := true }
def ResponseSustainsUptoSaid : Prop := responseSustainsUptoRow.holds Try.pinned (OpenSpec.upto responseSustainsSpec)

/-- 'isochronlaw25.ResponseSlacks', WHERE WHAT IT READS IS OF BULK AT MOST 1048576: true; the input reads as it did. -/
def responseSlacksUptoRow : OpenClaim := { program := "ytabbmnnohnfbeaa", sum := "cdadec56dbde62c9a7667ea649d4dd22cdbdf9f422a3bb827e4f350a51f385f8", func := "isochron/isochronlaw25.ResponseSlacks", spec := "responseSlacks", unfollowed := true, recurses := true, apart := false, narrowed := true }
def ResponseSlacksUptoSaid : Prop := responseSlacksUptoRow.holds Try.pinned (OpenSpec.upto responseSlacksSpec)

/-- 'isochronlaw25.ResponseLoads', WHERE WHAT IT READS IS OF BULK AT MOST 1048576: true; the input reads as it did. -/
def responseLoadsUptoRow : OpenClaim := { program := "ytabbmnnohnfbeaa", sum := "cdadec56dbde62c9a7667ea649d4dd22cdbdf9f422a3bb827e4f350a51f385f8", func := "isochron/isochronlaw25.ResponseLoads", spec := "responseLoads", unfollowed := true, recurses := true, apart := false, narrowed := true }
def ResponseLoadsUptoSaid : Prop := responseLoadsUptoRow.holds Try.pinned (OpenSpec.upto responseLoadsSpec)

/-- 'isochronlaw25.ResponseAssigns', WHERE WHAT IT READS IS OF BULK AT MOST 1048576: true; the input reads as it did. -/
def responseAssignsUptoRow : OpenClaim := { program := "ytabbmnnohnfbeaa", sum := "cdadec56dbde62c9a7667ea649d4dd22cdbdf9f422a3bb827e4f350a51f385f8", func := "isochron/isochronlaw25.ResponseAssigns", spec := "responseAssigns", unfollowed := true, recurses := true, apart := false, narrowed := true }
def ResponseAssignsUptoSaid : Prop := responseAssignsUptoRow.holds Try.pinned (OpenSpec.upto responseAssignsSpec)

/-- 'isochronlaw25.ResponseFinds', WHERE WHAT IT READS IS OF BULK AT MOST 1048576: true; the input reads as it did. -/
def responseFindsUptoRow : OpenClaim := { program := "ytabbmnnohnfbeaa", sum := "cdadec56dbde62c9a7667ea649d4dd22cdbdf9f422a3bb827e4f350a51f385f8", func := "isochron/isochronlaw25.ResponseFinds", spec := "responseFinds", unfollowed := true, recurses := true, apart := false, narrowed := true }
def ResponseFindsUptoSaid : Prop := responseFindsUptoRow.holds Try.pinned (OpenSpec.upto responseFindsSpec)

end Rows
end Go.Proofs.Ytabbmnnohnfbeaa
