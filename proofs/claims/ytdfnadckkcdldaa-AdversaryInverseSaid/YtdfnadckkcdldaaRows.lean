/-
  No cell of these rows narrows 'for every input' (looked for: loops, veiled, ifaces, maps, wideKeys, modest, calm, conditions, laid).
  DERIVED. THE GIVEN ROWS OF THIS SEAT. 7 by the template 'for every input the law returns true; each argument reads behind the call as it read before'; 0 by the template 'total and deterministic' (their statements: YtdfnadckkcdldaaTotals.lean).
  GIVEN WITH THE SEED: the statements are not yours to turn. If you find one false, say at which input.
  Laid BY PROGRAM, IN A SANDBOX (cutbox-rows.mjs): the forced cells as the released guide's own fill.sh prints them over the translation 55b823e7154e7610… (all of the seat's roots in one cut). By AI agents, Wed Nov 11 2026. No macro, syntax, notation, axiom, sorry.
-/
import Derived.Test.YtdfnadckkcdldaaChecked
import GoSem.Claim
import GoSem.ClaimJoined
import GoSem.ClaimMapViews
import Derived.JoinedTies
import Derived.KernelRfl
namespace Go.Proofs.Ytdfnadckkcdldaa
/- THE CELL 'sum', in the pinned program and in every row, IS THE sha256 OF THE DUMP (.gsa) THAT YtdfnadckkcdldaaProg.lean LOADS. Nothing in Lean hashes anything: it is a label: what it is worth is what the hold of that sum in a sandbox is worth. -/
noncomputable def Try.pinned : Pinned := { name := "ytdfnadckkcdldaa", sum := "55b823e7154e7610c6ccd0a6bea143e8fb425df0bc63340b09f9f4314252b51b", checked := Try.checked }
namespace Rows
def none {H : Type} : Left H := { results := [], args := [] }

/-- 'privitylaw13.AdversaryBroadcasts': WHATEVER THE INPUT: true; the input reads as it did. -/
def adversaryBroadcastsSpec : ChangeSpec := { name := "adversaryBroadcasts", fn := fun _ => fun
  | [d] => { results := [.lit (.bool true)], args := [d] }
  | _ => none }
def adversaryBroadcastsRow : OpenClaim := { program := "ytdfnadckkcdldaa", sum := "55b823e7154e7610c6ccd0a6bea143e8fb425df0bc63340b09f9f4314252b51b", func := "privity/privitylaw13.AdversaryBroadcasts", spec := "adversaryBroadcasts", inPlace := ["math/bits.Add64"], apart := false }
def AdversaryBroadcastsSaid : Prop := adversaryBroadcastsRow.holds Try.pinned (OpenSpec.ofChange adversaryBroadcastsSpec)

/-- ITS FALSE NEIGHBOUR: 'it returns false'. Refute it at one input. -/
def adversaryBroadcastsWrong : ChangeSpec := { name := "adversaryBroadcasts", fn := fun _ => fun
  | [d] => { results := [.lit (.bool false)], args := [d] }
  | _ => none }
def AdversaryBroadcastsWrongFalsely : Prop := adversaryBroadcastsRow.holds Try.pinned (OpenSpec.ofChange adversaryBroadcastsWrong)

/-- 'privitylaw13.AdversaryMessages': WHATEVER THE INPUT: true; the input reads as it did. -/
def adversaryMessagesSpec : ChangeSpec := { name := "adversaryMessages", fn := fun _ => fun
  | [d] => { results := [.lit (.bool true)], args := [d] }
  | _ => none }
def adversaryMessagesRow : OpenClaim := { program := "ytdfnadckkcdldaa", sum := "55b823e7154e7610c6ccd0a6bea143e8fb425df0bc63340b09f9f4314252b51b", func := "privity/privitylaw13.AdversaryMessages", spec := "adversaryMessages", inPlace := ["math/bits.Add64"], apart := false }
def AdversaryMessagesSaid : Prop := adversaryMessagesRow.holds Try.pinned (OpenSpec.ofChange adversaryMessagesSpec)

/-- ITS FALSE NEIGHBOUR: 'it returns false'. Refute it at one input. -/
def adversaryMessagesWrong : ChangeSpec := { name := "adversaryMessages", fn := fun _ => fun
  | [d] => { results := [.lit (.bool false)], args := [d] }
  | _ => none }
def AdversaryMessagesWrongFalsely : Prop := adversaryMessagesRow.holds Try.pinned (OpenSpec.ofChange adversaryMessagesWrong)

/-- 'privitylaw13.AdversaryHonestUnchanged': WHATEVER THE INPUT: true; the input reads as it did. -/
def adversaryHonestUnchangedSpec : ChangeSpec := { name := "adversaryHonestUnchanged", fn := fun _ => fun
  | [d] => { results := [.lit (.bool true)], args := [d] }
  | _ => none }
def adversaryHonestUnchangedRow : OpenClaim := { program := "ytdfnadckkcdldaa", sum := "55b823e7154e7610c6ccd0a6bea143e8fb425df0bc63340b09f9f4314252b51b", func := "privity/privitylaw13.AdversaryHonestUnchanged", spec := "adversaryHonestUnchanged", inPlace := ["math/bits.Add64"], apart := false }
def AdversaryHonestUnchangedSaid : Prop := adversaryHonestUnchangedRow.holds Try.pinned (OpenSpec.ofChange adversaryHonestUnchangedSpec)

/-- ITS FALSE NEIGHBOUR: 'it returns false'. Refute it at one input. -/
def adversaryHonestUnchangedWrong : ChangeSpec := { name := "adversaryHonestUnchanged", fn := fun _ => fun
  | [d] => { results := [.lit (.bool false)], args := [d] }
  | _ => none }
def AdversaryHonestUnchangedWrongFalsely : Prop := adversaryHonestUnchangedRow.holds Try.pinned (OpenSpec.ofChange adversaryHonestUnchangedWrong)

/-- 'privitylaw13.AdversaryOtherRounds': WHATEVER THE INPUT: true; the input reads as it did. -/
def adversaryOtherRoundsSpec : ChangeSpec := { name := "adversaryOtherRounds", fn := fun _ => fun
  | [d] => { results := [.lit (.bool true)], args := [d] }
  | _ => none }
def adversaryOtherRoundsRow : OpenClaim := { program := "ytdfnadckkcdldaa", sum := "55b823e7154e7610c6ccd0a6bea143e8fb425df0bc63340b09f9f4314252b51b", func := "privity/privitylaw13.AdversaryOtherRounds", spec := "adversaryOtherRounds", inPlace := ["math/bits.Add64"], apart := false }
def AdversaryOtherRoundsSaid : Prop := adversaryOtherRoundsRow.holds Try.pinned (OpenSpec.ofChange adversaryOtherRoundsSpec)

/-- ITS FALSE NEIGHBOUR: 'it returns false'. Refute it at one input. -/
def adversaryOtherRoundsWrong : ChangeSpec := { name := "adversaryOtherRounds", fn := fun _ => fun
  | [d] => { results := [.lit (.bool false)], args := [d] }
  | _ => none }
def AdversaryOtherRoundsWrongFalsely : Prop := adversaryOtherRoundsRow.holds Try.pinned (OpenSpec.ofChange adversaryOtherRoundsWrong)

/-- 'privitylaw13.AdversaryLocality': WHATEVER THE INPUT: true; the input reads as it did. -/
def adversaryLocalitySpec : ChangeSpec := { name := "adversaryLocality", fn := fun _ => fun
  | [d1, d2] => { results := [.lit (.bool true)], args := [d1, d2] }
  | _ => none }
def adversaryLocalityRow : OpenClaim := { program := "ytdfnadckkcdldaa", sum := "55b823e7154e7610c6ccd0a6bea143e8fb425df0bc63340b09f9f4314252b51b", func := "privity/privitylaw13.AdversaryLocality", spec := "adversaryLocality", inPlace := ["math/bits.Add64"], apart := false }
def AdversaryLocalitySaid : Prop := adversaryLocalityRow.holds Try.pinned (OpenSpec.ofChange adversaryLocalitySpec)

/-- ITS FALSE NEIGHBOUR: 'it returns false'. Refute it at one input. -/
def adversaryLocalityWrong : ChangeSpec := { name := "adversaryLocality", fn := fun _ => fun
  | [d1, d2] => { results := [.lit (.bool false)], args := [d1, d2] }
  | _ => none }
def AdversaryLocalityWrongFalsely : Prop := adversaryLocalityRow.holds Try.pinned (OpenSpec.ofChange adversaryLocalityWrong)

/-- 'privitylaw13.AdversaryInverse': WHATEVER THE INPUT: true; the input reads as it did. -/
def adversaryInverseSpec : ChangeSpec := { name := "adversaryInverse", fn := fun _ => fun
  | [d1, d2, d3] => { results := [.lit (.bool true)], args := [d1, d2, d3] }
  | _ => none }
def adversaryInverseRow : OpenClaim := { program := "ytdfnadckkcdldaa", sum := "55b823e7154e7610c6ccd0a6bea143e8fb425df0bc63340b09f9f4314252b51b", func := "privity/privitylaw13.AdversaryInverse", spec := "adversaryInverse", inPlace := ["math/bits.Add64"], apart := false }
def AdversaryInverseSaid : Prop := adversaryInverseRow.holds Try.pinned (OpenSpec.ofChange adversaryInverseSpec)

/-- ITS FALSE NEIGHBOUR: 'it returns false'. Refute it at one input. -/
def adversaryInverseWrong : ChangeSpec := { name := "adversaryInverse", fn := fun _ => fun
  | [d1, d2, d3] => { results := [.lit (.bool false)], args := [d1, d2, d3] }
  | _ => none }
def AdversaryInverseWrongFalsely : Prop := adversaryInverseRow.holds Try.pinned (OpenSpec.ofChange adversaryInverseWrong)

/-- 'privitylaw13.AdversaryOrder': WHATEVER THE INPUT: true; the input reads as it did. -/
def adversaryOrderSpec : ChangeSpec := { name := "adversaryOrder", fn := fun _ => fun
  | [d1, d2] => { results := [.lit (.bool true)], args := [d1, d2] }
  | _ => none }
def adversaryOrderRow : OpenClaim := { program := "ytdfnadckkcdldaa", sum := "55b823e7154e7610c6ccd0a6bea143e8fb425df0bc63340b09f9f4314252b51b", func := "privity/privitylaw13.AdversaryOrder", spec := "adversaryOrder", inPlace := ["math/bits.Add64"], apart := false }
def AdversaryOrderSaid : Prop := adversaryOrderRow.holds Try.pinned (OpenSpec.ofChange adversaryOrderSpec)

/-- ITS FALSE NEIGHBOUR: 'it returns false'. Refute it at one input. -/
def adversaryOrderWrong : ChangeSpec := { name := "adversaryOrder", fn := fun _ => fun
  | [d1, d2] => { results := [.lit (.bool false)], args := [d1, d2] }
  | _ => none }
def AdversaryOrderWrongFalsely : Prop := adversaryOrderRow.holds Try.pinned (OpenSpec.ofChange adversaryOrderWrong)

/- THE SECOND FORM. 'bulk': how many values and letters a reading holds, each counted each time it is reached (what is shared counts as often as it is met; a slice's spare places count too). A statement '..UptoSaid' is the law's where the arguments, and the package variables that the reading takes, are together of bulk at most 1048576: NARROWER than '..Said'. Prove '..Said' where nothing that the law and all that it calls make is longer than what came in: it says more and counts as full. Else prove '..UptoSaid'. A law counts once. -/
mutual
def uptoBulk {H : Type} : DataW H → Nat
  | .lit (.string bytes) => bytes.length + 1
  | .lit _ => 1
  | .nil => 1
  | .ptr d => uptoBulk d + 1
  | .slice elems spare => uptoBulkAll elems + uptoBulkAll spare + 1
  | .agg parts => uptoBulkAll parts + 1
  | .iface _ d => uptoBulk d + 1
  | .map entries => uptoBulkEntries entries + 1
  | .held _ => 1
def uptoBulkAll {H : Type} : List (DataW H) → Nat
  | [] => 0
  | d :: r => uptoBulk d + uptoBulkAll r
def uptoBulkEntries {H : Type} : List (Lit × DataW H) → Nat
  | [] => 0
  | x :: r => uptoBulkEntry x + uptoBulkEntries r
def uptoBulkEntry {H : Type} : Lit × DataW H → Nat
  | (.string bytes, d) => bytes.length + uptoBulk d + 1
  | (_, d) => uptoBulk d + 1
 end
def uptoSmall : (H : Type) → List (DataW H) → Bool := fun _ ds => decide (uptoBulkAll ds ≤ 1048576)
def OpenSpec.upto (s : _root_.Go.ChangeSpec) : _root_.Go.OpenSpec := { _root_.Go.OpenSpec.ofChange s with cond := some uptoSmall }

/-- 'privitylaw13.AdversaryBroadcasts', WHERE WHAT IT READS IS OF BULK AT MOST 1048576: true; the input reads as it did. -/
def adversaryBroadcastsUptoRow : OpenClaim := { program := "ytdfnadckkcdldaa", sum := "55b823e7154e7610c6ccd0a6bea143e8fb425df0bc63340b09f9f4314252b51b", func := "privity/privitylaw13.AdversaryBroadcasts", spec := "adversaryBroadcasts", inPlace := ["math/bits.Add64"], apart := false, narrowed := true }
def AdversaryBroadcastsUptoSaid : Prop := adversaryBroadcastsUptoRow.holds Try.pinned (OpenSpec.upto adversaryBroadcastsSpec)

/-- 'privitylaw13.AdversaryMessages', WHERE WHAT IT READS IS OF BULK AT MOST 1048576: true; the input reads as it did. -/
def adversaryMessagesUptoRow : OpenClaim := { program := "ytdfnadckkcdldaa", sum := "55b823e7154e7610c6ccd0a6bea143e8fb425df0bc63340b09f9f4314252b51b", func := "privity/privitylaw13.AdversaryMessages", spec := "adversaryMessages", inPlace := ["math/bits.Add64"], apart := false, narrowed := true }
def AdversaryMessagesUptoSaid : Prop := adversaryMessagesUptoRow.holds Try.pinned (OpenSpec.upto adversaryMessagesSpec)

/-- 'privitylaw13.AdversaryHonestUnchanged', WHERE WHAT IT READS IS OF BULK AT MOST 1048576: true; the input reads as it did. -/
def adversaryHonestUnchangedUptoRow : OpenClaim := { program := "ytdfnadckkcdldaa", sum := "55b823e7154e7610c6ccd0a6bea143e8fb425df0bc63340b09f9f4314252b51b", func := "privity/privitylaw13.AdversaryHonestUnchanged", spec := "adversaryHonestUnchanged", inPlace := ["math/bits.Add64"], apart := false, narrowed := true }
def AdversaryHonestUnchangedUptoSaid : Prop := adversaryHonestUnchangedUptoRow.holds Try.pinned (OpenSpec.upto adversaryHonestUnchangedSpec)

/-- 'privitylaw13.AdversaryOtherRounds', WHERE WHAT IT READS IS OF BULK AT MOST 1048576: true; the input reads as it did. -/
def adversaryOtherRoundsUptoRow : OpenClaim := { program := "ytdfnadckkcdldaa", sum := "55b823e7154e7610c6ccd0a6bea143e8fb425df0bc63340b09f9f4314252b51b", func := "privity/privitylaw13.AdversaryOtherRounds", spec := "adversaryOtherRounds", inPlace := ["math/bits.Add64"], apart := false, narrowed := true }
def AdversaryOtherRoundsUptoSaid : Prop := adversaryOtherRoundsUptoRow.holds Try.pinned (OpenSpec.upto adversaryOtherRoundsSpec)

/-- 'privitylaw13.AdversaryLocality', WHERE WHAT IT READS IS OF BULK AT MOST 1048576: true; the input reads as it did. -/
def adversaryLocalityUptoRow : OpenClaim := { program := "ytdfnadckkcdldaa", sum := "55b823e7154e7610c6ccd0a6bea143e8fb425df0bc63340b09f9f4314252b51b", func := "privity/privitylaw13.AdversaryLocality", spec := "adversaryLocality", inPlace := ["math/bits.Add64"], apart := false, narrowed := true }
def AdversaryLocalityUptoSaid : Prop := adversaryLocalityUptoRow.holds Try.pinned (OpenSpec.upto adversaryLocalitySpec)

/-- 'privitylaw13.AdversaryInverse', WHERE WHAT IT READS IS OF BULK AT MOST 1048576: true; the input reads as it did. -/
def adversaryInverseUptoRow : OpenClaim := { program := "ytdfnadckkcdldaa", sum := "55b823e7154e7610c6ccd0a6bea143e8fb425df0bc63340b09f9f4314252b51b", func := "privity/privitylaw13.AdversaryInverse", spec := "adversaryInverse", inPlace := ["math/bits.Add64"], apart := false, narrowed := true }
def AdversaryInverseUptoSaid : Prop := adversaryInverseUptoRow.holds Try.pinned (OpenSpec.upto adversaryInverseSpec)

/-- 'privitylaw13.AdversaryOrder', WHERE WHAT IT READS IS OF BULK AT MOST 1048576: true; the input reads as it did. -/
def adversaryOrderUptoRow : OpenClaim := { program := "ytdfnadckkcdldaa", sum := "55b823e7154e7610c6ccd0a6bea143e8fb425df0bc63340b09f9f4314252b51b", func := "privity/privitylaw13.AdversaryOrder", spec := "adversaryOrder", inPlace := ["math/bits.Add64"], apart := false, narrowed := true }
def AdversaryOrderUptoSaid : Prop := adversaryOrderUptoRow.holds Try.pinned (OpenSpec.upto adversaryOrderSpec)

end Rows
end Go.Proofs.Ytdfnadckkcdldaa
