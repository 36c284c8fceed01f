/-
  No cell of these rows narrows 'for every input' (looked for: loops, veiled, ifaces, maps, wideKeys, modest, calm, conditions, laid).
  DERIVED. THE GIVEN ROWS OF THIS SEAT. 8 by the template 'for every input the law returns true; each argument reads behind the call as it read before'; 0 by the template 'total and deterministic' (their statements: YtgldgomjlcojaaaTotals.lean).
  GIVEN WITH THE SEED: the statements are not yours to turn. If you find one false, say at which input.
  Laid BY PROGRAM, IN A SANDBOX (cutbox-rows.mjs): the forced cells as the released guide's own fill.sh prints them over the translation 4c351df3d2e7c40a… (all of the seat's roots in one cut). By AI agents, Wed Nov 11 2026. No macro, syntax, notation, axiom, sorry.
-/
import Derived.Test.YtgldgomjlcojaaaChecked
import GoSem.Claim
import GoSem.ClaimJoined
import GoSem.ClaimMapViews
import Derived.JoinedTies
import Derived.KernelRfl
namespace Go.Proofs.Ytgldgomjlcojaaa
/- THE CELL 'sum', in the pinned program and in every row, IS THE sha256 OF THE DUMP (.gsa) THAT YtgldgomjlcojaaaProg.lean LOADS. Nothing in Lean hashes anything: it is a label: what it is worth is what the hold of that sum in a sandbox is worth. -/
noncomputable def Try.pinned : Pinned := { name := "ytgldgomjlcojaaa", sum := "4c351df3d2e7c40a8ff0af73c132133ae909aeacef9d273593d7a0db05e332a9", checked := Try.checked }
namespace Rows
def none {H : Type} : Left H := { results := [], args := [] }

/-- 'isochronlaw09.BusJoins': WHATEVER THE INPUT: true; the input reads as it did. -/
def busJoinsSpec : ChangeSpec := { name := "busJoins", fn := fun _ => fun
  | [d1, d2, d3, d4, d5] => { results := [.lit (.bool true)], args := [d1, d2, d3, d4, d5] }
  | _ => none }
def busJoinsRow : OpenClaim := { program := "ytgldgomjlcojaaa", sum := "4c351df3d2e7c40a8ff0af73c132133ae909aeacef9d273593d7a0db05e332a9", func := "isochron/isochronlaw09.BusJoins", spec := "busJoins", unfollowed := true, recurses := true, apart := false }
def BusJoinsSaid : Prop := busJoinsRow.holds Try.pinned (OpenSpec.ofChange busJoinsSpec)

/-- ITS FALSE NEIGHBOUR: 'it returns false'. Refute it at one input. -/
def busJoinsWrong : ChangeSpec := { name := "busJoins", fn := fun _ => fun
  | [d1, d2, d3, d4, d5] => { results := [.lit (.bool false)], args := [d1, d2, d3, d4, d5] }
  | _ => none }
def BusJoinsWrongFalsely : Prop := busJoinsRow.holds Try.pinned (OpenSpec.ofChange busJoinsWrong)

/-- 'isochronlaw09.BusDelays': WHATEVER THE INPUT: true; the input reads as it did. -/
def busDelaysSpec : ChangeSpec := { name := "busDelays", fn := fun _ => fun
  | [d1, d2] => { results := [.lit (.bool true)], args := [d1, d2] }
  | _ => none }
def busDelaysRow : OpenClaim := { program := "ytgldgomjlcojaaa", sum := "4c351df3d2e7c40a8ff0af73c132133ae909aeacef9d273593d7a0db05e332a9", func := "isochron/isochronlaw09.BusDelays", spec := "busDelays", unfollowed := true, recurses := true, apart := false }
def BusDelaysSaid : Prop := busDelaysRow.holds Try.pinned (OpenSpec.ofChange busDelaysSpec)

/-- ITS FALSE NEIGHBOUR: 'it returns false'. Refute it at one input. -/
def busDelaysWrong : ChangeSpec := { name := "busDelays", fn := fun _ => fun
  | [d1, d2] => { results := [.lit (.bool false)], args := [d1, d2] }
  | _ => none }
def BusDelaysWrongFalsely : Prop := busDelaysRow.holds Try.pinned (OpenSpec.ofChange busDelaysWrong)

/-- 'isochronlaw09.BusWindows': WHATEVER THE INPUT: true; the input reads as it did. -/
def busWindowsSpec : ChangeSpec := { name := "busWindows", fn := fun _ => fun
  | [d1, d2, d3] => { results := [.lit (.bool true)], args := [d1, d2, d3] }
  | _ => none }
def busWindowsRow : OpenClaim := { program := "ytgldgomjlcojaaa", sum := "4c351df3d2e7c40a8ff0af73c132133ae909aeacef9d273593d7a0db05e332a9", func := "isochron/isochronlaw09.BusWindows", spec := "busWindows", unfollowed := true, recurses := true, apart := false }
def BusWindowsSaid : Prop := busWindowsRow.holds Try.pinned (OpenSpec.ofChange busWindowsSpec)

/-- ITS FALSE NEIGHBOUR: 'it returns false'. Refute it at one input. -/
def busWindowsWrong : ChangeSpec := { name := "busWindows", fn := fun _ => fun
  | [d1, d2, d3] => { results := [.lit (.bool false)], args := [d1, d2, d3] }
  | _ => none }
def BusWindowsWrongFalsely : Prop := busWindowsRow.holds Try.pinned (OpenSpec.ofChange busWindowsWrong)

/-- 'isochronlaw09.BusTells': WHATEVER THE INPUT: true; the input reads as it did. -/
def busTellsSpec : ChangeSpec := { name := "busTells", fn := fun _ => fun
  | [d1, d2, d3] => { results := [.lit (.bool true)], args := [d1, d2, d3] }
  | _ => none }
def busTellsRow : OpenClaim := { program := "ytgldgomjlcojaaa", sum := "4c351df3d2e7c40a8ff0af73c132133ae909aeacef9d273593d7a0db05e332a9", func := "isochron/isochronlaw09.BusTells", spec := "busTells", unfollowed := true, recurses := true, apart := false }
def BusTellsSaid : Prop := busTellsRow.holds Try.pinned (OpenSpec.ofChange busTellsSpec)

/-- ITS FALSE NEIGHBOUR: 'it returns false'. Refute it at one input. -/
def busTellsWrong : ChangeSpec := { name := "busTells", fn := fun _ => fun
  | [d1, d2, d3] => { results := [.lit (.bool false)], args := [d1, d2, d3] }
  | _ => none }
def BusTellsWrongFalsely : Prop := busTellsRow.holds Try.pinned (OpenSpec.ofChange busTellsWrong)

/-- 'isochronlaw09.BusTurned': WHATEVER THE INPUT: true; the input reads as it did. -/
def busTurnedSpec : ChangeSpec := { name := "busTurned", fn := fun _ => fun
  | [d1, d2, d3] => { results := [.lit (.bool true)], args := [d1, d2, d3] }
  | _ => none }
def busTurnedRow : OpenClaim := { program := "ytgldgomjlcojaaa", sum := "4c351df3d2e7c40a8ff0af73c132133ae909aeacef9d273593d7a0db05e332a9", func := "isochron/isochronlaw09.BusTurned", spec := "busTurned", unfollowed := true, recurses := true, apart := false }
def BusTurnedSaid : Prop := busTurnedRow.holds Try.pinned (OpenSpec.ofChange busTurnedSpec)

/-- ITS FALSE NEIGHBOUR: 'it returns false'. Refute it at one input. -/
def busTurnedWrong : ChangeSpec := { name := "busTurned", fn := fun _ => fun
  | [d1, d2, d3] => { results := [.lit (.bool false)], args := [d1, d2, d3] }
  | _ => none }
def BusTurnedWrongFalsely : Prop := busTurnedRow.holds Try.pinned (OpenSpec.ofChange busTurnedWrong)

/-- 'isochronlaw09.BusApart': WHATEVER THE INPUT: true; the input reads as it did. -/
def busApartSpec : ChangeSpec := { name := "busApart", fn := fun _ => fun
  | [d1, d2, d3] => { results := [.lit (.bool true)], args := [d1, d2, d3] }
  | _ => none }
def busApartRow : OpenClaim := { program := "ytgldgomjlcojaaa", sum := "4c351df3d2e7c40a8ff0af73c132133ae909aeacef9d273593d7a0db05e332a9", func := "isochron/isochronlaw09.BusApart", spec := "busApart", unfollowed := true, recurses := true, apart := false }
def BusApartSaid : Prop := busApartRow.holds Try.pinned (OpenSpec.ofChange busApartSpec)

/-- ITS FALSE NEIGHBOUR: 'it returns false'. Refute it at one input. -/
def busApartWrong : ChangeSpec := { name := "busApart", fn := fun _ => fun
  | [d1, d2, d3] => { results := [.lit (.bool false)], args := [d1, d2, d3] }
  | _ => none }
def BusApartWrongFalsely : Prop := busApartRow.holds Try.pinned (OpenSpec.ofChange busApartWrong)

/-- 'isochronlaw09.BusServes': WHATEVER THE INPUT: true; the input reads as it did. -/
def busServesSpec : ChangeSpec := { name := "busServes", fn := fun _ => fun
  | [d1, d2, d3] => { results := [.lit (.bool true)], args := [d1, d2, d3] }
  | _ => none }
def busServesRow : OpenClaim := { program := "ytgldgomjlcojaaa", sum := "4c351df3d2e7c40a8ff0af73c132133ae909aeacef9d273593d7a0db05e332a9", func := "isochron/isochronlaw09.BusServes", spec := "busServes", unfollowed := true, recurses := true, apart := false }
def BusServesSaid : Prop := busServesRow.holds Try.pinned (OpenSpec.ofChange busServesSpec)

/-- ITS FALSE NEIGHBOUR: 'it returns false'. Refute it at one input. -/
def busServesWrong : ChangeSpec := { name := "busServes", fn := fun _ => fun
  | [d1, d2, d3] => { results := [.lit (.bool false)], args := [d1, d2, d3] }
  | _ => none }
def BusServesWrongFalsely : Prop := busServesRow.holds Try.pinned (OpenSpec.ofChange busServesWrong)

/-- 'isochronlaw09.BusUses': WHATEVER THE INPUT: true; the input reads as it did. -/
def busUsesSpec : ChangeSpec := { name := "busUses", fn := fun _ => fun
  | [d1, d2] => { results := [.lit (.bool true)], args := [d1, d2] }
  | _ => none }
def busUsesRow : OpenClaim := { program := "ytgldgomjlcojaaa", sum := "4c351df3d2e7c40a8ff0af73c132133ae909aeacef9d273593d7a0db05e332a9", func := "isochron/isochronlaw09.BusUses", spec := "busUses", unfollowed := true, recurses := true, apart := false }
def BusUsesSaid : Prop := busUsesRow.holds Try.pinned (OpenSpec.ofChange busUsesSpec)

/-- ITS FALSE NEIGHBOUR: 'it returns false'. Refute it at one input. -/
def busUsesWrong : ChangeSpec := { name := "busUses", fn := fun _ => fun
  | [d1, d2] => { results := [.lit (.bool false)], args := [d1, d2] }
  | _ => none }
def BusUsesWrongFalsely : Prop := busUsesRow.holds Try.pinned (OpenSpec.ofChange busUsesWrong)

/- THE SECOND FORM. 'bulk': how many values and letters a reading holds, each counted each time it is reached (what is shared counts as often as it is met; a slice's spare places count too). A statement '..UptoSaid' is the law's where the arguments, and the package variables that the reading takes, are together of bulk at most 1048576: NARROWER than '..Said'. Prove '..Said' where nothing that the law and all that it calls make is longer than what came in: it says more and counts as full. Else prove '..UptoSaid'. A law counts once. -/
mutual
def uptoBulk {H : Type} : DataW H → Nat
  | .lit (.string bytes) => bytes.length + 1
  | .lit _ => 1
  | .nil => 1
  | .ptr d => uptoBulk d + 1
  | .slice elems spare => uptoBulkAll elems + uptoBulkAll spare + 1
  | .agg parts => uptoBulkAll parts + 1
  | .iface _ d => uptoBulk d + 1
  | .map entries => uptoBulkEntries entries + 1
  | .held _ => 1
def uptoBulkAll {H : Type} : List (DataW H) → Nat
  | [] => 0
  | d :: r => uptoBulk d + uptoBulkAll r
def uptoBulkEntries {H : Type} : List (Lit × DataW H) → Nat
  | [] => 0
  | x :: r => uptoBulkEntry x + uptoBulkEntries r
def uptoBulkEntry {H : Type} : Lit × DataW H → Nat
  | (.string bytes, d) => bytes.length + uptoBulk d + 1
  | (_, d) => uptoBulk d + 1
 end
def uptoSmall : (H : Type) → List (DataW H) → Bool := fun _ ds => decide (uptoBulkAll ds ≤ 1048576)
def OpenSpec.upto (s : _root_.Go.ChangeSpec) : _root_.Go.OpenSpec := { _root_.Go.OpenSpec.ofChange s with cond := some uptoSmall }

/-- 'isochronlaw09.BusJoins', WHERE WHAT IT READS IS OF BULK AT MOST 1048576: true; the input reads as it did. -/
def busJoinsUptoRow : OpenClaim := { program := "ytgldgomjlcojaaa", sum := "4c351df3d2e7c40a8ff0af73c132133ae909aeacef9d273593d7a0db05e332a9", func := "isochron/isochronlaw09.BusJoins", spec := "busJoins", unfollowed := true, recurses := true, apart := false, narrowed := true }
def BusJoinsUptoSaid : Prop := busJoinsUptoRow.holds Try.pinned (OpenSpec.upto busJoinsSpec)

/-- 'isochronlaw09.BusDelays', WHERE WHAT IT READS IS OF BULK AT MOST 1048576: true; the input reads as it did. -/
def busDelaysUptoRow : OpenClaim := { program := "ytgldgomjlcojaaa", sum := "4c351df3d2e7c40a8ff0af73c132133ae909aeacef9d273593d7a0db05e332a9", func := "isochron/isochronlaw09.BusDelays", spec := "busDelays", unfollowed := true, recurses := true, apart := false, narrowed := true }
def BusDelaysUptoSaid : Prop := busDelaysUptoRow.holds Try.pinned (OpenSpec.upto busDelaysSpec)

/-- 'isochronlaw09.BusWindows', WHERE WHAT IT READS IS OF BULK AT MOST 1048576: true; the input reads as it did. -/
def busWindowsUptoRow : OpenClaim := { program := "ytgldgomjlcojaaa", sum := "4c351df3d2e7c40a8ff0af73c132133ae909aeacef9d273593d7a0db05e332a9", func := "isochron/isochronlaw09.BusWindows", spec := "busWindows", unfollowed := true, recurses := true, apart := false, narrowed := true }
def BusWindowsUptoSaid : Prop := busWindowsUptoRow.holds Try.pinned (OpenSpec.upto busWindowsSpec)

/-- 'isochronlaw09.BusTells', WHERE WHAT IT READS IS OF BULK AT MOST 1048576: true; the input reads as it did. -/
def busTellsUptoRow : OpenClaim := { program := "ytgldgomjlcojaaa", sum := "4c351df3d2e7c40a8ff0af73c132133ae909aeacef9d273593d7a0db05e332a9", func := "isochron/isochronlaw09.BusTells", spec := "busTells", unfollowed := true, recurses := true, apart := false, narrowed := true }
def BusTellsUptoSaid : Prop := busTellsUptoRow.holds Try.pinned (OpenSpec.upto busTellsSpec)

/-- 'isochronlaw09.BusTurned', WHERE WHAT IT READS IS OF BULK AT MOST 1048576: true; the input reads as it did. -/
def busTurnedUptoRow : OpenClaim := { program := "ytgldgomjlcojaaa", sum := "4c351df3d2e7c40a8ff0af73c132133ae909aeacef9d273593d7a0db05e332a9", func := "isochron/isochronlaw09.BusTurned", spec := "busTurned", unfollowed := true, recurses := true, apart := false, narrowed := true }
def BusTurnedUptoSaid : Prop := busTurnedUptoRow.holds Try.pinned (OpenSpec.upto busTurnedSpec)

/-- 'isochronlaw09.BusApart', WHERE WHAT IT READS IS OF BULK AT MOST 1048576: true; the input reads as it did. -/
def busApartUptoRow : OpenClaim := { program := "ytgldgomjlcojaaa", sum := "4c351df3d2e7c40a8ff0af73c132133ae909aeacef9d273593d7a0db05e332a9", func := "isochron/isochronlaw09.BusApart", spec := "busApart", unfollowed := true, recurses := true, apart := false, narrowed := true }
def BusApartUptoSaid : Prop := busApartUptoRow.holds Try.pinned (OpenSpec.upto busApartSpec)

/-- 'isochronlaw09.BusServes', WHERE WHAT IT READS IS OF BULK AT MOST 1048576: true; the input reads as it did. -/
def busServesUptoRow : OpenClaim := { program := "ytgldgomjlcojaaa", sum := "4c351df3d2e7c40a8ff0af73c132133ae909aeacef9d273593d7a0db05e332a9", func := "isochron/isochronlaw09.BusServes", spec := "busServes", unfollowed := true, recurses := true, apart := false, narrowed := true }
def BusServesUptoSaid : Prop := busServesUptoRow.holds Try.pinned (OpenSpec.upto busServesSpec)

/-- 'isochronlaw09.BusUses', WHERE WHAT IT READS IS OF BULK AT MOST 1048576: true; the input reads as it did. -/
def busUsesUptoRow : OpenClaim := { program := "ytgldgomjlcojaaa", sum := "4c351df3d2e7c40a8ff0af73c132133ae909aeacef9d273593d7a0db05e332a9", func := "isochron/isochronlaw09.BusUses", spec := "busUses", unfollowed := true, recurses := true, apart := false, narrowed := true }
def BusUsesUptoSaid : Prop := busUsesUptoRow.holds Try.pinned (OpenSpec.upto busUsesSpec)

end Rows
end Go.Proofs.Ytgldgomjlcojaaa
