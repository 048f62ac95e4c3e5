/-
  No cell of these rows narrows 'for every input' (looked for: loops, veiled, ifaces, maps, wideKeys, modest, calm, conditions, laid).
  DERIVED. THE GIVEN ROWS OF THIS SEAT. 7 by the template 'for every input the law returns true; each argument reads behind the call as it read before'; 0 by the template 'total and deterministic' (their statements: YteolodabmljaaaaTotals.lean).
  GIVEN WITH THE SEED: the statements are not yours to turn. If you find one false, say at which input.
  Laid BY PROGRAM, IN A SANDBOX (cutbox-rows.mjs): the forced cells as the released guide's own fill.sh prints them over the translation 9d70d18228ee4bd9… (all of the seat's roots in one cut). By AI agents, Wed Nov 11 2026. No macro, syntax, notation, axiom, sorry.
-/
import Derived.Test.YteolodabmljaaaaChecked
import GoSem.Claim
import GoSem.ClaimJoined
import GoSem.ClaimMapViews
import Derived.JoinedTies
import Derived.KernelRfl
namespace Go.Proofs.Yteolodabmljaaaa
/- THE CELL 'sum', in the pinned program and in every row, IS THE sha256 OF THE DUMP (.gsa) THAT YteolodabmljaaaaProg.lean LOADS. Nothing in Lean hashes anything: it is a label: what it is worth is what the hold of that sum in a sandbox is worth. -/
noncomputable def Try.pinned : Pinned := { name := "yteolodabmljaaaa", sum := "9d70d18228ee4bd9f7a4a323c71d847e09068b4a2ed104acfdafcff5e9414888", checked := Try.checked }
namespace Rows
def none {H : Type} : Left H := { results := [], args := [] }

/-- 'privitylaw02.BitsFromUintRoundTrip': WHATEVER THE INPUT: true; the input reads as it did. -/
def bitsFromUintRoundTripSpec : ChangeSpec := { name := "bitsFromUintRoundTrip", fn := fun _ => fun
  | [d1, d2] => { results := [.lit (.bool true)], args := [d1, d2] }
  | _ => none }
def bitsFromUintRoundTripRow : OpenClaim := { program := "yteolodabmljaaaa", sum := "9d70d18228ee4bd9f7a4a323c71d847e09068b4a2ed104acfdafcff5e9414888", func := "privity/privitylaw02.BitsFromUintRoundTrip", spec := "bitsFromUintRoundTrip", unfollowed := true, recurses := true, apart := false }
def BitsFromUintRoundTripSaid : Prop := bitsFromUintRoundTripRow.holds Try.pinned (OpenSpec.ofChange bitsFromUintRoundTripSpec)

/-- ITS FALSE NEIGHBOUR: 'it returns false'. Refute it at one input. -/
def bitsFromUintRoundTripWrong : ChangeSpec := { name := "bitsFromUintRoundTrip", fn := fun _ => fun
  | [d1, d2] => { results := [.lit (.bool false)], args := [d1, d2] }
  | _ => none }
def BitsFromUintRoundTripWrongFalsely : Prop := bitsFromUintRoundTripRow.holds Try.pinned (OpenSpec.ofChange bitsFromUintRoundTripWrong)

/-- 'privitylaw02.BitsToUintRoundTrip': WHATEVER THE INPUT: true; the input reads as it did. -/
def bitsToUintRoundTripSpec : ChangeSpec := { name := "bitsToUintRoundTrip", fn := fun _ => fun
  | [d] => { results := [.lit (.bool true)], args := [d] }
  | _ => none }
def bitsToUintRoundTripRow : OpenClaim := { program := "yteolodabmljaaaa", sum := "9d70d18228ee4bd9f7a4a323c71d847e09068b4a2ed104acfdafcff5e9414888", func := "privity/privitylaw02.BitsToUintRoundTrip", spec := "bitsToUintRoundTrip", unfollowed := true, recurses := true, apart := false }
def BitsToUintRoundTripSaid : Prop := bitsToUintRoundTripRow.holds Try.pinned (OpenSpec.ofChange bitsToUintRoundTripSpec)

/-- ITS FALSE NEIGHBOUR: 'it returns false'. Refute it at one input. -/
def bitsToUintRoundTripWrong : ChangeSpec := { name := "bitsToUintRoundTrip", fn := fun _ => fun
  | [d] => { results := [.lit (.bool false)], args := [d] }
  | _ => none }
def BitsToUintRoundTripWrongFalsely : Prop := bitsToUintRoundTripRow.holds Try.pinned (OpenSpec.ofChange bitsToUintRoundTripWrong)

/-- 'privitylaw02.BitsAddCommutes': WHATEVER THE INPUT: true; the input reads as it did. -/
def bitsAddCommutesSpec : ChangeSpec := { name := "bitsAddCommutes", fn := fun _ => fun
  | [d1, d2] => { results := [.lit (.bool true)], args := [d1, d2] }
  | _ => none }
def bitsAddCommutesRow : OpenClaim := { program := "yteolodabmljaaaa", sum := "9d70d18228ee4bd9f7a4a323c71d847e09068b4a2ed104acfdafcff5e9414888", func := "privity/privitylaw02.BitsAddCommutes", spec := "bitsAddCommutes", unfollowed := true, recurses := true, apart := false }
def BitsAddCommutesSaid : Prop := bitsAddCommutesRow.holds Try.pinned (OpenSpec.ofChange bitsAddCommutesSpec)

/-- ITS FALSE NEIGHBOUR: 'it returns false'. Refute it at one input. -/
def bitsAddCommutesWrong : ChangeSpec := { name := "bitsAddCommutes", fn := fun _ => fun
  | [d1, d2] => { results := [.lit (.bool false)], args := [d1, d2] }
  | _ => none }
def BitsAddCommutesWrongFalsely : Prop := bitsAddCommutesRow.holds Try.pinned (OpenSpec.ofChange bitsAddCommutesWrong)

/-- 'privitylaw02.BitsSubSaturates': WHATEVER THE INPUT: true; the input reads as it did. -/
def bitsSubSaturatesSpec : ChangeSpec := { name := "bitsSubSaturates", fn := fun _ => fun
  | [d1, d2] => { results := [.lit (.bool true)], args := [d1, d2] }
  | _ => none }
def bitsSubSaturatesRow : OpenClaim := { program := "yteolodabmljaaaa", sum := "9d70d18228ee4bd9f7a4a323c71d847e09068b4a2ed104acfdafcff5e9414888", func := "privity/privitylaw02.BitsSubSaturates", spec := "bitsSubSaturates", unfollowed := true, recurses := true, apart := false }
def BitsSubSaturatesSaid : Prop := bitsSubSaturatesRow.holds Try.pinned (OpenSpec.ofChange bitsSubSaturatesSpec)

/-- ITS FALSE NEIGHBOUR: 'it returns false'. Refute it at one input. -/
def bitsSubSaturatesWrong : ChangeSpec := { name := "bitsSubSaturates", fn := fun _ => fun
  | [d1, d2] => { results := [.lit (.bool false)], args := [d1, d2] }
  | _ => none }
def BitsSubSaturatesWrongFalsely : Prop := bitsSubSaturatesRow.holds Try.pinned (OpenSpec.ofChange bitsSubSaturatesWrong)

/-- 'privitylaw02.BitsOrderIsTotal': WHATEVER THE INPUT: true; the input reads as it did. -/
def bitsOrderIsTotalSpec : ChangeSpec := { name := "bitsOrderIsTotal", fn := fun _ => fun
  | [d1, d2] => { results := [.lit (.bool true)], args := [d1, d2] }
  | _ => none }
def bitsOrderIsTotalRow : OpenClaim := { program := "yteolodabmljaaaa", sum := "9d70d18228ee4bd9f7a4a323c71d847e09068b4a2ed104acfdafcff5e9414888", func := "privity/privitylaw02.BitsOrderIsTotal", spec := "bitsOrderIsTotal", unfollowed := true, recurses := true, apart := false }
def BitsOrderIsTotalSaid : Prop := bitsOrderIsTotalRow.holds Try.pinned (OpenSpec.ofChange bitsOrderIsTotalSpec)

/-- ITS FALSE NEIGHBOUR: 'it returns false'. Refute it at one input. -/
def bitsOrderIsTotalWrong : ChangeSpec := { name := "bitsOrderIsTotal", fn := fun _ => fun
  | [d1, d2] => { results := [.lit (.bool false)], args := [d1, d2] }
  | _ => none }
def BitsOrderIsTotalWrongFalsely : Prop := bitsOrderIsTotalRow.holds Try.pinned (OpenSpec.ofChange bitsOrderIsTotalWrong)

/-- 'privitylaw02.BitsMulCommutes': WHATEVER THE INPUT: true; the input reads as it did. -/
def bitsMulCommutesSpec : ChangeSpec := { name := "bitsMulCommutes", fn := fun _ => fun
  | [d1, d2] => { results := [.lit (.bool true)], args := [d1, d2] }
  | _ => none }
def bitsMulCommutesRow : OpenClaim := { program := "yteolodabmljaaaa", sum := "9d70d18228ee4bd9f7a4a323c71d847e09068b4a2ed104acfdafcff5e9414888", func := "privity/privitylaw02.BitsMulCommutes", spec := "bitsMulCommutes", unfollowed := true, recurses := true, apart := false }
def BitsMulCommutesSaid : Prop := bitsMulCommutesRow.holds Try.pinned (OpenSpec.ofChange bitsMulCommutesSpec)

/-- ITS FALSE NEIGHBOUR: 'it returns false'. Refute it at one input. -/
def bitsMulCommutesWrong : ChangeSpec := { name := "bitsMulCommutes", fn := fun _ => fun
  | [d1, d2] => { results := [.lit (.bool false)], args := [d1, d2] }
  | _ => none }
def BitsMulCommutesWrongFalsely : Prop := bitsMulCommutesRow.holds Try.pinned (OpenSpec.ofChange bitsMulCommutesWrong)

/-- 'privitylaw02.BitsMulDistributes': WHATEVER THE INPUT: true; the input reads as it did. -/
def bitsMulDistributesSpec : ChangeSpec := { name := "bitsMulDistributes", fn := fun _ => fun
  | [d1, d2, d3] => { results := [.lit (.bool true)], args := [d1, d2, d3] }
  | _ => none }
def bitsMulDistributesRow : OpenClaim := { program := "yteolodabmljaaaa", sum := "9d70d18228ee4bd9f7a4a323c71d847e09068b4a2ed104acfdafcff5e9414888", func := "privity/privitylaw02.BitsMulDistributes", spec := "bitsMulDistributes", unfollowed := true, recurses := true, apart := false }
def BitsMulDistributesSaid : Prop := bitsMulDistributesRow.holds Try.pinned (OpenSpec.ofChange bitsMulDistributesSpec)

/-- ITS FALSE NEIGHBOUR: 'it returns false'. Refute it at one input. -/
def bitsMulDistributesWrong : ChangeSpec := { name := "bitsMulDistributes", fn := fun _ => fun
  | [d1, d2, d3] => { results := [.lit (.bool false)], args := [d1, d2, d3] }
  | _ => none }
def BitsMulDistributesWrongFalsely : Prop := bitsMulDistributesRow.holds Try.pinned (OpenSpec.ofChange bitsMulDistributesWrong)

/- THE SECOND FORM. 'bulk': how many values and letters a reading holds, each counted each time it is reached (what is shared counts as often as it is met; a slice's spare places count too). A statement '..UptoSaid' is the law's where the arguments, and the package variables that the reading takes, are together of bulk at most 1048576: NARROWER than '..Said'. Prove '..Said' where nothing that the law and all that it calls make is longer than what came in: it says more and counts as full. Else prove '..UptoSaid'. A law counts once. -/
mutual
def uptoBulk {H : Type} : DataW H → Nat
  | .lit (.string bytes) => bytes.length + 1
  | .lit _ => 1
  | .nil => 1
  | .ptr d => uptoBulk d + 1
  | .slice elems spare => uptoBulkAll elems + uptoBulkAll spare + 1
  | .agg parts => uptoBulkAll parts + 1
  | .iface _ d => uptoBulk d + 1
  | .map entries => uptoBulkEntries entries + 1
  | .held _ => 1
def uptoBulkAll {H : Type} : List (DataW H) → Nat
  | [] => 0
  | d :: r => uptoBulk d + uptoBulkAll r
def uptoBulkEntries {H : Type} : List (Lit × DataW H) → Nat
  | [] => 0
  | x :: r => uptoBulkEntry x + uptoBulkEntries r
def uptoBulkEntry {H : Type} : Lit × DataW H → Nat
  | (.string bytes, d) => bytes.length + uptoBulk d + 1
  | (_, d) => uptoBulk d + 1
 end
def uptoSmall : (H : Type) → List (DataW H) → Bool := fun _ ds => decide (uptoBulkAll ds ≤ 1048576)
def OpenSpec.upto (s : _root_.Go.ChangeSpec) : _root_.Go.OpenSpec := { _root_.Go.OpenSpec.ofChange s with cond := some uptoSmall }

/-- 'privitylaw02.BitsFromUintRoundTrip', WHERE WHAT IT READS IS OF BULK AT MOST 1048576: true; the input reads as it did. -/
def bitsFromUintRoundTripUptoRow : OpenClaim := { program := "yteolodabmljaaaa", sum := "9d70d18228ee4bd9f7a4a323c71d847e09068b4a2ed104acfdafcff5e9414888", func := "privity/privitylaw02.BitsFromUintRoundTrip", spec := "bitsFromUintRoundTrip", unfollowed := true, recurses := true, apart := false, narrowed := true }
def BitsFromUintRoundTripUptoSaid : Prop := bitsFromUintRoundTripUptoRow.holds Try.pinned (OpenSpec.upto bitsFromUintRoundTripSpec)

/-- 'privitylaw02.BitsToUintRoundTrip', WHERE WHAT IT READS IS OF BULK AT MOST 1048576: true; the input reads as it did. -/
def bitsToUintRoundTripUptoRow : OpenClaim := { program := "yteolodabmljaaaa", sum := "9d70d18228ee4bd9f7a4a323c71d847e09068b4a2ed104acfdafcff5e9414888", func := "privity/privitylaw02.BitsToUintRoundTrip", spec := "bitsToUintRoundTrip", unfollowed := true, recurses := true, apart := false, narrowed := true }
def BitsToUintRoundTripUptoSaid : Prop := bitsToUintRoundTripUptoRow.holds Try.pinned (OpenSpec.upto bitsToUintRoundTripSpec)

/-- 'privitylaw02.BitsAddCommutes', WHERE WHAT IT READS IS OF BULK AT MOST 1048576: true; the input reads as it did. -/
def bitsAddCommutesUptoRow : OpenClaim := { program := "yteolodabmljaaaa", sum := "9d70d18228ee4bd9f7a4a323c71d847e09068b4a2ed104acfdafcff5e9414888", func := "privity/privitylaw02.BitsAddCommutes", spec := "bitsAddCommutes", unfollowed := true, recurses := true, apart := false, narrowed := true }
def BitsAddCommutesUptoSaid : Prop := bitsAddCommutesUptoRow.holds Try.pinned (OpenSpec.upto bitsAddCommutesSpec)

/-- 'privitylaw02.BitsSubSaturates', WHERE WHAT IT READS IS OF BULK AT MOST 1048576: true; the input reads as it did. -/
def bitsSubSaturatesUptoRow : OpenClaim := { program := "yteolodabmljaaaa", sum := "9d70d18228ee4bd9f7a4a323c71d847e09068b4a2ed104acfdafcff5e9414888", func := "privity/privitylaw02.BitsSubSaturates", spec := "bitsSubSaturates", unfollowed := true, recurses := true, apart := false, narrowed := true }
def BitsSubSaturatesUptoSaid : Prop := bitsSubSaturatesUptoRow.holds Try.pinned (OpenSpec.upto bitsSubSaturatesSpec)

/-- 'privitylaw02.BitsOrderIsTotal', WHERE WHAT IT READS IS OF BULK AT MOST 1048576: true; the input reads as it did. -/
def bitsOrderIsTotalUptoRow : OpenClaim := { program := "yteolodabmljaaaa", sum := "9d70d18228ee4bd9f7a4a323c71d847e09068b4a2ed104acfdafcff5e9414888", func := "privity/privitylaw02.BitsOrderIsTotal", spec := "bitsOrderIsTotal", unfollowed := true, recurses := true, apart := false, narrowed := true }
def BitsOrderIsTotalUptoSaid : Prop := bitsOrderIsTotalUptoRow.holds Try.pinned (OpenSpec.upto bitsOrderIsTotalSpec)

/-- 'privitylaw02.BitsMulCommutes', WHERE WHAT IT READS IS OF BULK AT MOST 1048576: true; the input reads as it did. -/
def bitsMulCommutesUptoRow : OpenClaim := { program := "yteolodabmljaaaa", sum := "9d70d18228ee4bd9f7a4a323c71d847e09068b4a2ed104acfdafcff5e9414888", func := "privity/privitylaw02.BitsMulCommutes", spec := "bitsMulCommutes", unfollowed := true, recurses := true, apart := false, narrowed := true }
def BitsMulCommutesUptoSaid : Prop := bitsMulCommutesUptoRow.holds Try.pinned (OpenSpec.upto bitsMulCommutesSpec)

/-- 'privitylaw02.BitsMulDistributes', WHERE WHAT IT READS IS OF BULK AT MOST 1048576: true; the input reads as it did. -/
def bitsMulDistributesUptoRow : OpenClaim := { program := "yteolodabmljaaaa", sum := "9d70d18228ee4bd9f7a4a323c71d847e09068b4a2ed104acfdafcff5e9414888", func := "privity/privitylaw02.BitsMulDistributes", spec := "bitsMulDistributes", unfollowed := true, recurses := true, apart := false, narrowed := true }
def BitsMulDistributesUptoSaid : Prop := bitsMulDistributesUptoRow.holds Try.pinned (OpenSpec.upto bitsMulDistributesSpec)

end Rows
end Go.Proofs.Yteolodabmljaaaa
