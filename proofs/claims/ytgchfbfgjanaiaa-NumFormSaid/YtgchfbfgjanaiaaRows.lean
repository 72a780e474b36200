/-
  No cell of these rows narrows 'for every input' (looked for: loops, veiled, ifaces, maps, wideKeys, modest, calm, conditions, laid).
  DERIVED. THE GIVEN ROWS OF THIS SEAT. 12 by the template 'for every input the law returns true; each argument reads behind the call as it read before'; 0 by the template 'total and deterministic' (their statements: YtgchfbfgjanaiaaTotals.lean).
  GIVEN WITH THE SEED: the statements are not yours to turn. If you find one false, say at which input.
  Laid BY PROGRAM, IN A SANDBOX (cutbox-rows.mjs): the forced cells as the released guide's own fill.sh prints them over the translation 4dcf626b385a3d1c… (all of the seat's roots in one cut). By AI agents, Wed Nov 11 2026. No macro, syntax, notation, axiom, sorry.
-/
import Derived.Test.YtgchfbfgjanaiaaChecked
import GoSem.Claim
import GoSem.ClaimJoined
import GoSem.ClaimMapViews
import Derived.JoinedTies
import Derived.KernelRfl
namespace Go.Proofs.Ytgchfbfgjanaiaa
/- THE CELL 'sum', in the pinned program and in every row, IS THE sha256 OF THE DUMP (.gsa) THAT YtgchfbfgjanaiaaProg.lean LOADS. Nothing in Lean hashes anything: it is a label: what it is worth is what the hold of that sum in a sandbox is worth. -/
noncomputable def Try.pinned : Pinned := { name := "ytgchfbfgjanaiaa", sum := "4dcf626b385a3d1ce6ce6501fd30d520c35a4e57612cd1b7425ab780ad6347c3", checked := Try.checked }
namespace Rows
def none {H : Type} : Left H := { results := [], args := [] }

/-- 'sandreckonerlaw01.NumLoads': WHATEVER THE INPUT: true; the input reads as it did. -/
def numLoadsSpec : ChangeSpec := { name := "numLoads", fn := fun _ => fun
  | [d] => { results := [.lit (.bool true)], args := [d] }
  | _ => none }
def numLoadsRow : OpenClaim := { program := "ytgchfbfgjanaiaa", sum := "4dcf626b385a3d1ce6ce6501fd30d520c35a4e57612cd1b7425ab780ad6347c3", func := "sandreckoner/sandreckonerlaw01.NumLoads", spec := "numLoads", unfollowed := true, recurses := true, plainKeys := false, apart := false }
def NumLoadsSaid : Prop := numLoadsRow.holds Try.pinned (OpenSpec.ofChange numLoadsSpec)

/-- ITS FALSE NEIGHBOUR: 'it returns false'. Refute it at one input. -/
def numLoadsWrong : ChangeSpec := { name := "numLoads", fn := fun _ => fun
  | [d] => { results := [.lit (.bool false)], args := [d] }
  | _ => none }
def NumLoadsWrongFalsely : Prop := numLoadsRow.holds Try.pinned (OpenSpec.ofChange numLoadsWrong)

/-- 'sandreckonerlaw01.NumRoom': WHATEVER THE INPUT: true; the input reads as it did. -/
def numRoomSpec : ChangeSpec := { name := "numRoom", fn := fun _ => fun
  | [d1, d2, d3] => { results := [.lit (.bool true)], args := [d1, d2, d3] }
  | _ => none }
def numRoomRow : OpenClaim := { program := "ytgchfbfgjanaiaa", sum := "4dcf626b385a3d1ce6ce6501fd30d520c35a4e57612cd1b7425ab780ad6347c3", func := "sandreckoner/sandreckonerlaw01.NumRoom", spec := "numRoom", unfollowed := true, recurses := true, plainKeys := false, apart := false }
def NumRoomSaid : Prop := numRoomRow.holds Try.pinned (OpenSpec.ofChange numRoomSpec)

/-- ITS FALSE NEIGHBOUR: 'it returns false'. Refute it at one input. -/
def numRoomWrong : ChangeSpec := { name := "numRoom", fn := fun _ => fun
  | [d1, d2, d3] => { results := [.lit (.bool false)], args := [d1, d2, d3] }
  | _ => none }
def NumRoomWrongFalsely : Prop := numRoomRow.holds Try.pinned (OpenSpec.ofChange numRoomWrong)

/-- 'sandreckonerlaw01.NumBinary': WHATEVER THE INPUT: true; the input reads as it did. -/
def numBinarySpec : ChangeSpec := { name := "numBinary", fn := fun _ => fun
  | [d1, d2, d3] => { results := [.lit (.bool true)], args := [d1, d2, d3] }
  | _ => none }
def numBinaryRow : OpenClaim := { program := "ytgchfbfgjanaiaa", sum := "4dcf626b385a3d1ce6ce6501fd30d520c35a4e57612cd1b7425ab780ad6347c3", func := "sandreckoner/sandreckonerlaw01.NumBinary", spec := "numBinary", unfollowed := true, recurses := true, plainKeys := false, apart := false }
def NumBinarySaid : Prop := numBinaryRow.holds Try.pinned (OpenSpec.ofChange numBinarySpec)

/-- ITS FALSE NEIGHBOUR: 'it returns false'. Refute it at one input. -/
def numBinaryWrong : ChangeSpec := { name := "numBinary", fn := fun _ => fun
  | [d1, d2, d3] => { results := [.lit (.bool false)], args := [d1, d2, d3] }
  | _ => none }
def NumBinaryWrongFalsely : Prop := numBinaryRow.holds Try.pinned (OpenSpec.ofChange numBinaryWrong)

/-- 'sandreckonerlaw01.NumForm': WHATEVER THE INPUT: true; the input reads as it did. -/
def numFormSpec : ChangeSpec := { name := "numForm", fn := fun _ => fun
  | [d] => { results := [.lit (.bool true)], args := [d] }
  | _ => none }
def numFormRow : OpenClaim := { program := "ytgchfbfgjanaiaa", sum := "4dcf626b385a3d1ce6ce6501fd30d520c35a4e57612cd1b7425ab780ad6347c3", func := "sandreckoner/sandreckonerlaw01.NumForm", spec := "numForm", unfollowed := true, recurses := true, plainKeys := false, apart := false }
def NumFormSaid : Prop := numFormRow.holds Try.pinned (OpenSpec.ofChange numFormSpec)

/-- ITS FALSE NEIGHBOUR: 'it returns false'. Refute it at one input. -/
def numFormWrong : ChangeSpec := { name := "numForm", fn := fun _ => fun
  | [d] => { results := [.lit (.bool false)], args := [d] }
  | _ => none }
def NumFormWrongFalsely : Prop := numFormRow.holds Try.pinned (OpenSpec.ofChange numFormWrong)

/-- 'sandreckonerlaw01.NumOrder': WHATEVER THE INPUT: true; the input reads as it did. -/
def numOrderSpec : ChangeSpec := { name := "numOrder", fn := fun _ => fun
  | [d1, d2] => { results := [.lit (.bool true)], args := [d1, d2] }
  | _ => none }
def numOrderRow : OpenClaim := { program := "ytgchfbfgjanaiaa", sum := "4dcf626b385a3d1ce6ce6501fd30d520c35a4e57612cd1b7425ab780ad6347c3", func := "sandreckoner/sandreckonerlaw01.NumOrder", spec := "numOrder", unfollowed := true, recurses := true, plainKeys := false, apart := false }
def NumOrderSaid : Prop := numOrderRow.holds Try.pinned (OpenSpec.ofChange numOrderSpec)

/-- ITS FALSE NEIGHBOUR: 'it returns false'. Refute it at one input. -/
def numOrderWrong : ChangeSpec := { name := "numOrder", fn := fun _ => fun
  | [d1, d2] => { results := [.lit (.bool false)], args := [d1, d2] }
  | _ => none }
def NumOrderWrongFalsely : Prop := numOrderRow.holds Try.pinned (OpenSpec.ofChange numOrderWrong)

/-- 'sandreckonerlaw01.NumRing': WHATEVER THE INPUT: true; the input reads as it did. -/
def numRingSpec : ChangeSpec := { name := "numRing", fn := fun _ => fun
  | [d1, d2] => { results := [.lit (.bool true)], args := [d1, d2] }
  | _ => none }
def numRingRow : OpenClaim := { program := "ytgchfbfgjanaiaa", sum := "4dcf626b385a3d1ce6ce6501fd30d520c35a4e57612cd1b7425ab780ad6347c3", func := "sandreckoner/sandreckonerlaw01.NumRing", spec := "numRing", unfollowed := true, recurses := true, plainKeys := false, apart := false }
def NumRingSaid : Prop := numRingRow.holds Try.pinned (OpenSpec.ofChange numRingSpec)

/-- ITS FALSE NEIGHBOUR: 'it returns false'. Refute it at one input. -/
def numRingWrong : ChangeSpec := { name := "numRing", fn := fun _ => fun
  | [d1, d2] => { results := [.lit (.bool false)], args := [d1, d2] }
  | _ => none }
def NumRingWrongFalsely : Prop := numRingRow.holds Try.pinned (OpenSpec.ofChange numRingWrong)

/-- 'sandreckonerlaw01.NumShifts': WHATEVER THE INPUT: true; the input reads as it did. -/
def numShiftsSpec : ChangeSpec := { name := "numShifts", fn := fun _ => fun
  | [d1, d2] => { results := [.lit (.bool true)], args := [d1, d2] }
  | _ => none }
def numShiftsRow : OpenClaim := { program := "ytgchfbfgjanaiaa", sum := "4dcf626b385a3d1ce6ce6501fd30d520c35a4e57612cd1b7425ab780ad6347c3", func := "sandreckoner/sandreckonerlaw01.NumShifts", spec := "numShifts", unfollowed := true, recurses := true, plainKeys := false, apart := false }
def NumShiftsSaid : Prop := numShiftsRow.holds Try.pinned (OpenSpec.ofChange numShiftsSpec)

/-- ITS FALSE NEIGHBOUR: 'it returns false'. Refute it at one input. -/
def numShiftsWrong : ChangeSpec := { name := "numShifts", fn := fun _ => fun
  | [d1, d2] => { results := [.lit (.bool false)], args := [d1, d2] }
  | _ => none }
def NumShiftsWrongFalsely : Prop := numShiftsRow.holds Try.pinned (OpenSpec.ofChange numShiftsWrong)

/-- 'sandreckonerlaw01.NumPowers': WHATEVER THE INPUT: true; the input reads as it did. -/
def numPowersSpec : ChangeSpec := { name := "numPowers", fn := fun _ => fun
  | [d1, d2, d3] => { results := [.lit (.bool true)], args := [d1, d2, d3] }
  | _ => none }
def numPowersRow : OpenClaim := { program := "ytgchfbfgjanaiaa", sum := "4dcf626b385a3d1ce6ce6501fd30d520c35a4e57612cd1b7425ab780ad6347c3", func := "sandreckoner/sandreckonerlaw01.NumPowers", spec := "numPowers", unfollowed := true, recurses := true, plainKeys := false, apart := false }
def NumPowersSaid : Prop := numPowersRow.holds Try.pinned (OpenSpec.ofChange numPowersSpec)

/-- ITS FALSE NEIGHBOUR: 'it returns false'. Refute it at one input. -/
def numPowersWrong : ChangeSpec := { name := "numPowers", fn := fun _ => fun
  | [d1, d2, d3] => { results := [.lit (.bool false)], args := [d1, d2, d3] }
  | _ => none }
def NumPowersWrongFalsely : Prop := numPowersRow.holds Try.pinned (OpenSpec.ofChange numPowersWrong)

/-- 'sandreckonerlaw01.NumSums': WHATEVER THE INPUT: true; the input reads as it did. -/
def numSumsSpec : ChangeSpec := { name := "numSums", fn := fun _ => fun
  | [d1, d2, d3] => { results := [.lit (.bool true)], args := [d1, d2, d3] }
  | _ => none }
def numSumsRow : OpenClaim := { program := "ytgchfbfgjanaiaa", sum := "4dcf626b385a3d1ce6ce6501fd30d520c35a4e57612cd1b7425ab780ad6347c3", func := "sandreckoner/sandreckonerlaw01.NumSums", spec := "numSums", unfollowed := true, recurses := true, plainKeys := false, apart := false }
def NumSumsSaid : Prop := numSumsRow.holds Try.pinned (OpenSpec.ofChange numSumsSpec)

/-- ITS FALSE NEIGHBOUR: 'it returns false'. Refute it at one input. -/
def numSumsWrong : ChangeSpec := { name := "numSums", fn := fun _ => fun
  | [d1, d2, d3] => { results := [.lit (.bool false)], args := [d1, d2, d3] }
  | _ => none }
def NumSumsWrongFalsely : Prop := numSumsRow.holds Try.pinned (OpenSpec.ofChange numSumsWrong)

/-- 'sandreckonerlaw01.NumOwn': WHATEVER THE INPUT: true; the input reads as it did. -/
def numOwnSpec : ChangeSpec := { name := "numOwn", fn := fun _ => fun
  | [d1, d2, d3] => { results := [.lit (.bool true)], args := [d1, d2, d3] }
  | _ => none }
def numOwnRow : OpenClaim := { program := "ytgchfbfgjanaiaa", sum := "4dcf626b385a3d1ce6ce6501fd30d520c35a4e57612cd1b7425ab780ad6347c3", func := "sandreckoner/sandreckonerlaw01.NumOwn", spec := "numOwn", unfollowed := true, recurses := true, plainKeys := false, apart := false }
def NumOwnSaid : Prop := numOwnRow.holds Try.pinned (OpenSpec.ofChange numOwnSpec)

/-- ITS FALSE NEIGHBOUR: 'it returns false'. Refute it at one input. -/
def numOwnWrong : ChangeSpec := { name := "numOwn", fn := fun _ => fun
  | [d1, d2, d3] => { results := [.lit (.bool false)], args := [d1, d2, d3] }
  | _ => none }
def NumOwnWrongFalsely : Prop := numOwnRow.holds Try.pinned (OpenSpec.ofChange numOwnWrong)

/-- 'sandreckonerlaw01.NumInts': WHATEVER THE INPUT: true; the input reads as it did. -/
def numIntsSpec : ChangeSpec := { name := "numInts", fn := fun _ => fun
  | [d1, d2] => { results := [.lit (.bool true)], args := [d1, d2] }
  | _ => none }
def numIntsRow : OpenClaim := { program := "ytgchfbfgjanaiaa", sum := "4dcf626b385a3d1ce6ce6501fd30d520c35a4e57612cd1b7425ab780ad6347c3", func := "sandreckoner/sandreckonerlaw01.NumInts", spec := "numInts", unfollowed := true, recurses := true, plainKeys := false, apart := false }
def NumIntsSaid : Prop := numIntsRow.holds Try.pinned (OpenSpec.ofChange numIntsSpec)

/-- ITS FALSE NEIGHBOUR: 'it returns false'. Refute it at one input. -/
def numIntsWrong : ChangeSpec := { name := "numInts", fn := fun _ => fun
  | [d1, d2] => { results := [.lit (.bool false)], args := [d1, d2] }
  | _ => none }
def NumIntsWrongFalsely : Prop := numIntsRow.holds Try.pinned (OpenSpec.ofChange numIntsWrong)

/-- 'sandreckonerlaw01.NumFull': WHATEVER THE INPUT: true; the input reads as it did. -/
def numFullSpec : ChangeSpec := { name := "numFull", fn := fun _ => fun
  | [d] => { results := [.lit (.bool true)], args := [d] }
  | _ => none }
def numFullRow : OpenClaim := { program := "ytgchfbfgjanaiaa", sum := "4dcf626b385a3d1ce6ce6501fd30d520c35a4e57612cd1b7425ab780ad6347c3", func := "sandreckoner/sandreckonerlaw01.NumFull", spec := "numFull", unfollowed := true, recurses := true, plainKeys := false, apart := false }
def NumFullSaid : Prop := numFullRow.holds Try.pinned (OpenSpec.ofChange numFullSpec)

/-- ITS FALSE NEIGHBOUR: 'it returns false'. Refute it at one input. -/
def numFullWrong : ChangeSpec := { name := "numFull", fn := fun _ => fun
  | [d] => { results := [.lit (.bool false)], args := [d] }
  | _ => none }
def NumFullWrongFalsely : Prop := numFullRow.holds Try.pinned (OpenSpec.ofChange numFullWrong)

/- THE SECOND FORM. 'bulk': how many values and letters a reading holds, each counted each time it is reached (what is shared counts as often as it is met; a slice's spare places count too). A statement '..UptoSaid' is the law's where the arguments, and the package variables that the reading takes, are together of bulk at most 1048576: NARROWER than '..Said'. Prove '..Said' where nothing that the law and all that it calls make is longer than what came in: it says more and counts as full. Else prove '..UptoSaid'. A law counts once. -/
mutual
def uptoBulk {H : Type} : DataW H → Nat
  | .lit (.string bytes) => bytes.length + 1
  | .lit _ => 1
  | .nil => 1
  | .ptr d => uptoBulk d + 1
  | .slice elems spare => uptoBulkAll elems + uptoBulkAll spare + 1
  | .agg parts => uptoBulkAll parts + 1
  | .iface _ d => uptoBulk d + 1
  | .map entries => uptoBulkEntries entries + 1
  | .held _ => 1
def uptoBulkAll {H : Type} : List (DataW H) → Nat
  | [] => 0
  | d :: r => uptoBulk d + uptoBulkAll r
def uptoBulkEntries {H : Type} : List (Lit × DataW H) → Nat
  | [] => 0
  | x :: r => uptoBulkEntry x + uptoBulkEntries r
def uptoBulkEntry {H : Type} : Lit × DataW H → Nat
  | (.string bytes, d) => bytes.length + uptoBulk d + 1
  | (_, d) => uptoBulk d + 1
 end
def uptoSmall : (H : Type) → List (DataW H) → Bool := fun _ ds => decide (uptoBulkAll ds ≤ 1048576)
def OpenSpec.upto (s : _root_.Go.ChangeSpec) : _root_.Go.OpenSpec := { _root_.Go.OpenSpec.ofChange s with cond := some uptoSmall }

/-- 'sandreckonerlaw01.NumLoads', WHERE WHAT IT READS IS OF BULK AT MOST 1048576: true; the input reads as it did. -/
def numLoadsUptoRow : OpenClaim := { program := "ytgchfbfgjanaiaa", sum := "4dcf626b385a3d1ce6ce6501fd30d520c35a4e57612cd1b7425ab780ad6347c3", func := "sandreckoner/sandreckonerlaw01.NumLoads", spec := "numLoads", unfollowed := true, recurses := true, plainKeys := false, apart := false, narrowed := true }
def NumLoadsUptoSaid : Prop := numLoadsUptoRow.holds Try.pinned (OpenSpec.upto numLoadsSpec)

/-- 'sandreckonerlaw01.NumRoom', WHERE WHAT IT READS IS OF BULK AT MOST 1048576: true; the input reads as it did. -/
def numRoomUptoRow : OpenClaim := { program := "ytgchfbfgjanaiaa", sum := "4dcf626b385a3d1ce6ce6501fd30d520c35a4e57612cd1b7425ab780ad6347c3", func := "sandreckoner/sandreckonerlaw01.NumRoom", spec := "numRoom", unfollowed := true, recurses := true, plainKeys := false, apart := false, narrowed := true }
def NumRoomUptoSaid : Prop := numRoomUptoRow.holds Try.pinned (OpenSpec.upto numRoomSpec)

/-- 'sandreckonerlaw01.NumBinary', WHERE WHAT IT READS IS OF BULK AT MOST 1048576: true; the input reads as it did. -/
def numBinaryUptoRow : OpenClaim := { program := "ytgchfbfgjanaiaa", sum := "4dcf626b385a3d1ce6ce6501fd30d520c35a4e57612cd1b7425ab780ad6347c3", func := "sandreckoner/sandreckonerlaw01.NumBinary", spec := "numBinary", unfollowed := true, recurses := true, plainKeys := false, apart := false, narrowed := true }
def NumBinaryUptoSaid : Prop := numBinaryUptoRow.holds Try.pinned (OpenSpec.upto numBinarySpec)

/-- 'sandreckonerlaw01.NumForm', WHERE WHAT IT READS IS OF BULK AT MOST 1048576: true; the input reads as it did. -/
def numFormUptoRow : OpenClaim := { program := "ytgchfbfgjanaiaa", sum := "4dcf626b385a3d1ce6ce6501fd30d520c35a4e57612cd1b7425ab780ad6347c3", func := "sandreckoner/sandreckonerlaw01.NumForm", spec := "numForm", unfollowed := true, recurses := true, plainKeys := false, apart := false, narrowed := true }
def NumFormUptoSaid : Prop := numFormUptoRow.holds Try.pinned (OpenSpec.upto numFormSpec)

/-- 'sandreckonerlaw01.NumOrder', WHERE WHAT IT READS IS OF BULK AT MOST 1048576: true; the input reads as it did. -/
def numOrderUptoRow : OpenClaim := { program := "ytgchfbfgjanaiaa", sum := "4dcf626b385a3d1ce6ce6501fd30d520c35a4e57612cd1b7425ab780ad6347c3", func := "sandreckoner/sandreckonerlaw01.NumOrder", spec := "numOrder", unfollowed := true, recurses := true, plainKeys := false, apart := false, narrowed := true }
def NumOrderUptoSaid : Prop := numOrderUptoRow.holds Try.pinned (OpenSpec.upto numOrderSpec)

/-- 'sandreckonerlaw01.NumRing', WHERE WHAT IT READS IS OF BULK AT MOST 1048576: true; the input reads as it did. -/
def numRingUptoRow : OpenClaim := { program := "ytgchfbfgjanaiaa", sum := "4dcf626b385a3d1ce6ce6501fd30d520c35a4e57612cd1b7425ab780ad6347c3", func := "sandreckoner/sandreckonerlaw01.NumRing", spec := "numRing", unfollowed := true, recurses := true, plainKeys := false, apart := false, narrowed := true }
def NumRingUptoSaid : Prop := numRingUptoRow.holds Try.pinned (OpenSpec.upto numRingSpec)

/-- 'sandreckonerlaw01.NumShifts', WHERE WHAT IT READS IS OF BULK AT MOST 1048576: true; the input reads as it did. -/
def numShiftsUptoRow : OpenClaim := { program := "ytgchfbfgjanaiaa", sum := "4dcf626b385a3d1ce6ce6501fd30d520c35a4e57612cd1b7425ab780ad6347c3", func := "sandreckoner/sandreckonerlaw01.NumShifts", spec := "numShifts", unfollowed := true, recurses := true, plainKeys := false, apart := false, narrowed := true }
def NumShiftsUptoSaid : Prop := numShiftsUptoRow.holds Try.pinned (OpenSpec.upto numShiftsSpec)

/-- 'sandreckonerlaw01.NumPowers', WHERE WHAT IT READS IS OF BULK AT MOST 1048576: true; the input reads as it did. -/
def numPowersUptoRow : OpenClaim := { program := "ytgchfbfgjanaiaa", sum := "4dcf626b385a3d1ce6ce6501fd30d520c35a4e57612cd1b7425ab780ad6347c3", func := "sandreckoner/sandreckonerlaw01.NumPowers", spec := "numPowers", unfollowed := true, recurses := true, plainKeys := false, apart := false, narrowed := true }
def NumPowersUptoSaid : Prop := numPowersUptoRow.holds Try.pinned (OpenSpec.upto numPowersSpec)

/-- 'sandreckonerlaw01.NumSums', WHERE WHAT IT READS IS OF BULK AT MOST 1048576: true; the input reads as it did. -/
def numSumsUptoRow : OpenClaim := { program := "ytgchfbfgjanaiaa", sum := "4dcf626b385a3d1ce6ce6501fd30d520c35a4e57612cd1b7425ab780ad6347c3", func := "sandreckoner/sandreckonerlaw01.NumSums", spec := "numSums", unfollowed := true, recurses := true, plainKeys := false, apart := false, narrowed := true }
def NumSumsUptoSaid : Prop := numSumsUptoRow.holds Try.pinned (OpenSpec.upto numSumsSpec)

/-- 'sandreckonerlaw01.NumOwn', WHERE WHAT IT READS IS OF BULK AT MOST 1048576: true; the input reads as it did. -/
def numOwnUptoRow : OpenClaim := { program := "ytgchfbfgjanaiaa", sum := "4dcf626b385a3d1ce6ce6501fd30d520c35a4e57612cd1b7425ab780ad6347c3", func := "sandreckoner/sandreckonerlaw01.NumOwn", spec := "numOwn", unfollowed := true, recurses := true, plainKeys := false, apart := false, narrowed := true }
def NumOwnUptoSaid : Prop := numOwnUptoRow.holds Try.pinned (OpenSpec.upto numOwnSpec)

/-- 'sandreckonerlaw01.NumInts', WHERE WHAT IT READS IS OF BULK AT MOST 1048576: true; the input reads as it did. -/
def numIntsUptoRow : OpenClaim := { program := "ytgchfbfgjanaiaa", sum := "4dcf626b385a3d1ce6ce6501fd30d520c35a4e57612cd1b7425ab780ad6347c3", func := "sandreckoner/sandreckonerlaw01.NumInts", spec := "numInts", unfollowed := true, recurses := true, plainKeys := false, apart := false, narrowed := true }
def NumIntsUptoSaid : Prop := numIntsUptoRow.holds Try.pinned (OpenSpec.upto numIntsSpec)

/-- 'sandreckonerlaw01.NumFull', WHERE WHAT IT READS IS OF BULK AT MOST 1048576: true; the input reads as it did. -/
def numFullUptoRow : OpenClaim := { program := "ytgchfbfgjanaiaa", sum := "4dcf626b385a3d1ce6ce6501fd30d520c35a4e57612cd1b7425ab780ad6347c3", func := "sandreckoner/sandreckonerlaw01.NumFull", spec := "numFull", unfollowed := true, recurses := true, plainKeys := false, apart := false, narrowed := true }
def NumFullUptoSaid : Prop := numFullUptoRow.holds Try.pinned (OpenSpec.upto numFullSpec)

end Rows
end Go.Proofs.Ytgchfbfgjanaiaa
