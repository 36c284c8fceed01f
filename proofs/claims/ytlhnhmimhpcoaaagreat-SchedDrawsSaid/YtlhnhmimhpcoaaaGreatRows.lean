/-
  No cell of these rows narrows 'for every input' (looked for: loops, veiled, ifaces, maps, wideKeys, modest, calm, conditions, laid).
  DERIVED. THE GIVEN ROWS OF THIS SEAT. 3 by the template 'for every input the law returns true; each argument reads behind the call as it read before'; 0 by the template 'total and deterministic' (their statements: YtlhnhmimhpcoaaaGreatTotals.lean).
  GIVEN WITH THE SEED: the statements are not yours to turn. If you find one false, say at which input.
  Laid BY PROGRAM, IN A SANDBOX (cutbox-rows.mjs): the forced cells as the released guide's own fill.sh prints them over the translation c454fbba567f575b… (all of the seat's roots in one cut). By AI agents, Wed Nov 11 2026. No macro, syntax, notation, axiom, sorry.
-/
import Derived.Test.YtlhnhmimhpcoaaaGreatChecked
import GoSem.Claim
import GoSem.ClaimJoined
import GoSem.ClaimMapViews
import Derived.JoinedTies
import Derived.KernelRfl
namespace Go.Proofs.YtlhnhmimhpcoaaaGreat
/- THE CELL 'sum', in the pinned program and in every row, IS THE sha256 OF THE DUMP (.gsa) THAT YtlhnhmimhpcoaaaGreatProg.lean LOADS. Nothing in Lean hashes anything: it is a label: what it is worth is what the hold of that sum in a sandbox is worth. -/
noncomputable def Tryz.pinned : Pinned := { name := "ytlhnhmimhpcoaaagreat", sum := "c454fbba567f575b30db7b57427551056dd1f6899da54d898c077a7c9ab63526", checked := Tryz.checked }
namespace Rows
def none {H : Type} : Left H := { results := [], args := [] }

/-- 'isochronlaw26.SchedDraws': WHATEVER THE INPUT: true; the input reads as it did. -/
def schedDrawsSpec : ChangeSpec := { name := "schedDraws", fn := fun _ => fun
  | [d1, d2] => { results := [.lit (.bool true)], args := [d1, d2] }
  | _ => none }
def schedDrawsRow : OpenClaim := { program := "ytlhnhmimhpcoaaagreat", sum := "c454fbba567f575b30db7b57427551056dd1f6899da54d898c077a7c9ab63526", func := "isochron/isochronlaw26.SchedDraws", spec := "schedDraws", inPlace := ["internal/abi.NoEscape", "internal/bytealg.MakeNoZero"], unfollowed := true, recurses := true, apart := false }
def SchedDrawsSaid : Prop := schedDrawsRow.holds Tryz.pinned (OpenSpec.ofChange schedDrawsSpec)

/-- ITS FALSE NEIGHBOUR: 'it returns false'. Refute it at one input. -/
def schedDrawsWrong : ChangeSpec := { name := "schedDraws", fn := fun _ => fun
  | [d1, d2] => { results := [.lit (.bool false)], args := [d1, d2] }
  | _ => none }
def SchedDrawsWrongFalsely : Prop := schedDrawsRow.holds Tryz.pinned (OpenSpec.ofChange schedDrawsWrong)

/-- 'isochronlaw26.SchedMeets': WHATEVER THE INPUT: true; the input reads as it did. -/
def schedMeetsSpec : ChangeSpec := { name := "schedMeets", fn := fun _ => fun
  | [d1, d2] => { results := [.lit (.bool true)], args := [d1, d2] }
  | _ => none }
def schedMeetsRow : OpenClaim := { program := "ytlhnhmimhpcoaaagreat", sum := "c454fbba567f575b30db7b57427551056dd1f6899da54d898c077a7c9ab63526", func := "isochron/isochronlaw26.SchedMeets", spec := "schedMeets", unfollowed := true, recurses := true, apart := false }
def SchedMeetsSaid : Prop := schedMeetsRow.holds Tryz.pinned (OpenSpec.ofChange schedMeetsSpec)

/-- ITS FALSE NEIGHBOUR: 'it returns false'. Refute it at one input. -/
def schedMeetsWrong : ChangeSpec := { name := "schedMeets", fn := fun _ => fun
  | [d1, d2] => { results := [.lit (.bool false)], args := [d1, d2] }
  | _ => none }
def SchedMeetsWrongFalsely : Prop := schedMeetsRow.holds Tryz.pinned (OpenSpec.ofChange schedMeetsWrong)

/-- 'isochronlaw26.SchedShorter': WHATEVER THE INPUT: true; the input reads as it did. -/
def schedShorterSpec : ChangeSpec := { name := "schedShorter", fn := fun _ => fun
  | [d1, d2, d3] => { results := [.lit (.bool true)], args := [d1, d2, d3] }
  | _ => none }
def schedShorterRow : OpenClaim := { program := "ytlhnhmimhpcoaaagreat", sum := "c454fbba567f575b30db7b57427551056dd1f6899da54d898c077a7c9ab63526", func := "isochron/isochronlaw26.SchedShorter", spec := "schedShorter", unfollowed := true, recurses := true, apart := false }
def SchedShorterSaid : Prop := schedShorterRow.holds Tryz.pinned (OpenSpec.ofChange schedShorterSpec)

/-- ITS FALSE NEIGHBOUR: 'it returns false'. Refute it at one input. -/
def schedShorterWrong : ChangeSpec := { name := "schedShorter", fn := fun _ => fun
  | [d1, d2, d3] => { results := [.lit (.bool false)], args := [d1, d2, d3] }
  | _ => none }
def SchedShorterWrongFalsely : Prop := schedShorterRow.holds Tryz.pinned (OpenSpec.ofChange schedShorterWrong)

/- THE SECOND FORM. 'bulk': how many values and letters a reading holds, each counted each time it is reached (what is shared counts as often as it is met; a slice's spare places count too). A statement '..UptoSaid' is the law's where the arguments, and the package variables that the reading takes, are together of bulk at most 1048576: NARROWER than '..Said'. Prove '..Said' where nothing that the law and all that it calls make is longer than what came in: it says more and counts as full. Else prove '..UptoSaid'. A law counts once. -/
mutual
def uptoBulk {H : Type} : DataW H → Nat
  | .lit (.string bytes) => bytes.length + 1
  | .lit _ => 1
  | .nil => 1
  | .ptr d => uptoBulk d + 1
  | .slice elems spare => uptoBulkAll elems + uptoBulkAll spare + 1
  | .agg parts => uptoBulkAll parts + 1
  | .iface _ d => uptoBulk d + 1
  | .map entries => uptoBulkEntries entries + 1
  | .held _ => 1
def uptoBulkAll {H : Type} : List (DataW H) → Nat
  | [] => 0
  | d :: r => uptoBulk d + uptoBulkAll r
def uptoBulkEntries {H : Type} : List (Lit × DataW H) → Nat
  | [] => 0
  | x :: r => uptoBulkEntry x + uptoBulkEntries r
def uptoBulkEntry {H : Type} : Lit × DataW H → Nat
  | (.string bytes, d) => bytes.length + uptoBulk d + 1
  | (_, d) => uptoBulk d + 1
 end
def uptoSmall : (H : Type) → List (DataW H) → Bool := fun _ ds => decide (uptoBulkAll ds ≤ 1048576)
def OpenSpec.upto (s : _root_.Go.ChangeSpec) : _root_.Go.OpenSpec := { _root_.Go.OpenSpec.ofChange s with cond := some uptoSmall }

/-- 'isochronlaw26.SchedDraws', WHERE WHAT IT READS IS OF BULK AT MOST 1048576: true; the input reads as it did. -/
def schedDrawsUptoRow : OpenClaim := { program := "ytlhnhmimhpcoaaagreat", sum := "c454fbba567f575b30db7b57427551056dd1f6899da54d898c077a7c9ab63526", func := "isochron/isochronlaw26.SchedDraws", spec := "schedDraws", inPlace := ["internal/abi.NoEscape", "internal/bytealg.MakeNoZero"], unfollowed := true, recurses := true, apart := false, narrowed := true }
def SchedDrawsUptoSaid : Prop := schedDrawsUptoRow.holds Tryz.pinned (OpenSpec.upto schedDrawsSpec)

/-- 'isochronlaw26.SchedMeets', WHERE WHAT IT READS IS OF BULK AT MOST 1048576: true; the input reads as it did. -/
def schedMeetsUptoRow : OpenClaim := { program := "ytlhnhmimhpcoaaagreat", sum := "c454fbba567f575b30db7b57427551056dd1f6899da54d898c077a7c9ab63526", func := "isochron/isochronlaw26.SchedMeets", spec := "schedMeets", unfollowed := true, recurses := true, apart := false, narrowed := true }
def SchedMeetsUptoSaid : Prop := schedMeetsUptoRow.holds Tryz.pinned (OpenSpec.upto schedMeetsSpec)

/-- 'isochronlaw26.SchedShorter', WHERE WHAT IT READS IS OF BULK AT MOST 1048576: true; the input reads as it did. -/
def schedShorterUptoRow : OpenClaim := { program := "ytlhnhmimhpcoaaagreat", sum := "c454fbba567f575b30db7b57427551056dd1f6899da54d898c077a7c9ab63526", func := "isochron/isochronlaw26.SchedShorter", spec := "schedShorter", unfollowed := true, recurses := true, apart := false, narrowed := true }
def SchedShorterUptoSaid : Prop := schedShorterUptoRow.holds Tryz.pinned (OpenSpec.upto schedShorterSpec)

end Rows
end Go.Proofs.YtlhnhmimhpcoaaaGreat
