/-
  NARROWER THAN 'FOR EVERY INPUT', by the rows' own cells (each row's printed sentence says how): PhasekingAgreement: laid · PhasekingValidity: laid · PhasekingRounds: laid · PhasekingIdempotent: laid · PhasekingNoDeviations: laid · PhasekingIgnoredDeviations: laid · PhasekingCorruptInputs: laid · PhasekingAgree: laid · BroadcastAgreementAndValidity: laid · BroadcastRoundCount: laid · BroadcastConsistentSenderIsAccepted: laid · BroadcastMatchesReference: laid · BroadcastEqualsIdealBroadcast: laid.
  DERIVED. THE GIVEN ROWS OF THIS SEAT. 13 by the template 'for every input the law returns true; each argument reads behind the call as it read before'; 0 by the template 'total and deterministic' (their statements: YtbkhamjlfadfoaaDoorTotals.lean).
  GIVEN WITH THE SEED: the statements are not yours to turn. If you find one false, say at which input.
  Laid BY PROGRAM, IN A SANDBOX (cutbox-rows.mjs): the forced cells as the released guide's own fill.sh prints them over the translation 9f0524d577d5e6ac… (all of the seat's roots in one cut). By AI agents, Wed Nov 11 2026. No macro, syntax, notation, axiom, sorry.
-/
import Derived.Test.YtbkhamjlfadfoaaDoorChecked
import GoSem.Claim
import GoSem.ClaimJoined
import GoSem.ClaimMapViews
import Derived.JoinedTies
import Derived.KernelRfl
namespace Go.Proofs.YtbkhamjlfadfoaaDoor
/- THE CELL 'sum', in the pinned program and in every row, IS THE sha256 OF THE DUMP (.gsa) THAT YtbkhamjlfadfoaaDoorProg.lean LOADS. Nothing in Lean hashes anything: it is a label: what it is worth is what the hold of that sum in a sandbox is worth. -/
noncomputable def Tryd.pinned : Pinned := { name := "ytbkhamjlfadfoaadoor", sum := "9f0524d577d5e6ac30c5b5132de224f5d89aac45c80dd08fc89803da809f3091", checked := Tryd.checked }
namespace Rows
def none {H : Type} : Left H := { results := [], args := [] }

/- WHAT THE LISTED PACKAGE-LEVEL VARIABLES READ AS WHEN THE CALL BEGINS. Each datum BY PROGRAM (the guide's laid-datum.mjs) off the statement by which the dump's own 'gosem.cut.vars' lays the variable. In a bare row this is a premise. The card (YtbkhamjlfadfoaaDoorCards.lean) ties it to the program's text. -/
def laid_privity_field_exps {H : Type} : DataW H := .agg [.lit (.int .i64 5), .lit (.int .i64 7), .lit (.int .i64 13), .lit (.int .i64 17), .lit (.int .i64 19), .lit (.int .i64 31), .lit (.int .i64 61)]

/-- 'privitylaw16.PhasekingAgreement': WHATEVER THE INPUT: true; the input reads as it did. -/
def phasekingAgreementSpec : ChangeSpec := { name := "phasekingAgreement", fn := fun _ => fun
  | [d] => { results := [.lit (.bool true)], args := [d] }
  | _ => none }
def phasekingAgreementRow : OpenClaim := { program := "ytbkhamjlfadfoaadoor", sum := "9f0524d577d5e6ac30c5b5132de224f5d89aac45c80dd08fc89803da809f3091", func := "privity/privitylaw16.PhasekingAgreement", spec := "phasekingAgreement", inPlace := ["math/bits.Add64"], unfollowed := true, recurses := true, named := ["privity/field.exps"], apart := false, laid := [("privity/field.exps", laid_privity_field_exps)] }
def PhasekingAgreementSaid : Prop := phasekingAgreementRow.holds Tryd.pinned (OpenSpec.ofChange phasekingAgreementSpec)

/-- ITS FALSE NEIGHBOUR: 'it returns false'. Refute it at one input. -/
def phasekingAgreementWrong : ChangeSpec := { name := "phasekingAgreement", fn := fun _ => fun
  | [d] => { results := [.lit (.bool false)], args := [d] }
  | _ => none }
def PhasekingAgreementWrongFalsely : Prop := phasekingAgreementRow.holds Tryd.pinned (OpenSpec.ofChange phasekingAgreementWrong)

/-- 'privitylaw16.PhasekingValidity': WHATEVER THE INPUT: true; the input reads as it did. -/
def phasekingValiditySpec : ChangeSpec := { name := "phasekingValidity", fn := fun _ => fun
  | [d1, d2] => { results := [.lit (.bool true)], args := [d1, d2] }
  | _ => none }
def phasekingValidityRow : OpenClaim := { program := "ytbkhamjlfadfoaadoor", sum := "9f0524d577d5e6ac30c5b5132de224f5d89aac45c80dd08fc89803da809f3091", func := "privity/privitylaw16.PhasekingValidity", spec := "phasekingValidity", inPlace := ["math/bits.Add64"], unfollowed := true, recurses := true, named := ["privity/field.exps"], apart := false, laid := [("privity/field.exps", laid_privity_field_exps)] }
def PhasekingValiditySaid : Prop := phasekingValidityRow.holds Tryd.pinned (OpenSpec.ofChange phasekingValiditySpec)

/-- ITS FALSE NEIGHBOUR: 'it returns false'. Refute it at one input. -/
def phasekingValidityWrong : ChangeSpec := { name := "phasekingValidity", fn := fun _ => fun
  | [d1, d2] => { results := [.lit (.bool false)], args := [d1, d2] }
  | _ => none }
def PhasekingValidityWrongFalsely : Prop := phasekingValidityRow.holds Tryd.pinned (OpenSpec.ofChange phasekingValidityWrong)

/-- 'privitylaw16.PhasekingRounds': WHATEVER THE INPUT: true; the input reads as it did. -/
def phasekingRoundsSpec : ChangeSpec := { name := "phasekingRounds", fn := fun _ => fun
  | [d] => { results := [.lit (.bool true)], args := [d] }
  | _ => none }
def phasekingRoundsRow : OpenClaim := { program := "ytbkhamjlfadfoaadoor", sum := "9f0524d577d5e6ac30c5b5132de224f5d89aac45c80dd08fc89803da809f3091", func := "privity/privitylaw16.PhasekingRounds", spec := "phasekingRounds", inPlace := ["math/bits.Add64"], unfollowed := true, recurses := true, named := ["privity/field.exps"], apart := false, laid := [("privity/field.exps", laid_privity_field_exps)] }
def PhasekingRoundsSaid : Prop := phasekingRoundsRow.holds Tryd.pinned (OpenSpec.ofChange phasekingRoundsSpec)

/-- ITS FALSE NEIGHBOUR: 'it returns false'. Refute it at one input. -/
def phasekingRoundsWrong : ChangeSpec := { name := "phasekingRounds", fn := fun _ => fun
  | [d] => { results := [.lit (.bool false)], args := [d] }
  | _ => none }
def PhasekingRoundsWrongFalsely : Prop := phasekingRoundsRow.holds Tryd.pinned (OpenSpec.ofChange phasekingRoundsWrong)

/-- 'privitylaw16.PhasekingIdempotent': WHATEVER THE INPUT: true; the input reads as it did. -/
def phasekingIdempotentSpec : ChangeSpec := { name := "phasekingIdempotent", fn := fun _ => fun
  | [d] => { results := [.lit (.bool true)], args := [d] }
  | _ => none }
def phasekingIdempotentRow : OpenClaim := { program := "ytbkhamjlfadfoaadoor", sum := "9f0524d577d5e6ac30c5b5132de224f5d89aac45c80dd08fc89803da809f3091", func := "privity/privitylaw16.PhasekingIdempotent", spec := "phasekingIdempotent", inPlace := ["math/bits.Add64"], unfollowed := true, recurses := true, named := ["privity/field.exps"], apart := false, laid := [("privity/field.exps", laid_privity_field_exps)] }
def PhasekingIdempotentSaid : Prop := phasekingIdempotentRow.holds Tryd.pinned (OpenSpec.ofChange phasekingIdempotentSpec)

/-- ITS FALSE NEIGHBOUR: 'it returns false'. Refute it at one input. -/
def phasekingIdempotentWrong : ChangeSpec := { name := "phasekingIdempotent", fn := fun _ => fun
  | [d] => { results := [.lit (.bool false)], args := [d] }
  | _ => none }
def PhasekingIdempotentWrongFalsely : Prop := phasekingIdempotentRow.holds Tryd.pinned (OpenSpec.ofChange phasekingIdempotentWrong)

/-- 'privitylaw16.PhasekingNoDeviations': WHATEVER THE INPUT: true; the input reads as it did. -/
def phasekingNoDeviationsSpec : ChangeSpec := { name := "phasekingNoDeviations", fn := fun _ => fun
  | [d1, d2] => { results := [.lit (.bool true)], args := [d1, d2] }
  | _ => none }
def phasekingNoDeviationsRow : OpenClaim := { program := "ytbkhamjlfadfoaadoor", sum := "9f0524d577d5e6ac30c5b5132de224f5d89aac45c80dd08fc89803da809f3091", func := "privity/privitylaw16.PhasekingNoDeviations", spec := "phasekingNoDeviations", inPlace := ["math/bits.Add64"], unfollowed := true, recurses := true, named := ["privity/field.exps"], apart := false, laid := [("privity/field.exps", laid_privity_field_exps)] }
def PhasekingNoDeviationsSaid : Prop := phasekingNoDeviationsRow.holds Tryd.pinned (OpenSpec.ofChange phasekingNoDeviationsSpec)

/-- ITS FALSE NEIGHBOUR: 'it returns false'. Refute it at one input. -/
def phasekingNoDeviationsWrong : ChangeSpec := { name := "phasekingNoDeviations", fn := fun _ => fun
  | [d1, d2] => { results := [.lit (.bool false)], args := [d1, d2] }
  | _ => none }
def PhasekingNoDeviationsWrongFalsely : Prop := phasekingNoDeviationsRow.holds Tryd.pinned (OpenSpec.ofChange phasekingNoDeviationsWrong)

/-- 'privitylaw16.PhasekingIgnoredDeviations': WHATEVER THE INPUT: true; the input reads as it did. -/
def phasekingIgnoredDeviationsSpec : ChangeSpec := { name := "phasekingIgnoredDeviations", fn := fun _ => fun
  | [d] => { results := [.lit (.bool true)], args := [d] }
  | _ => none }
def phasekingIgnoredDeviationsRow : OpenClaim := { program := "ytbkhamjlfadfoaadoor", sum := "9f0524d577d5e6ac30c5b5132de224f5d89aac45c80dd08fc89803da809f3091", func := "privity/privitylaw16.PhasekingIgnoredDeviations", spec := "phasekingIgnoredDeviations", inPlace := ["math/bits.Add64"], unfollowed := true, recurses := true, named := ["privity/field.exps"], apart := false, laid := [("privity/field.exps", laid_privity_field_exps)] }
def PhasekingIgnoredDeviationsSaid : Prop := phasekingIgnoredDeviationsRow.holds Tryd.pinned (OpenSpec.ofChange phasekingIgnoredDeviationsSpec)

/-- ITS FALSE NEIGHBOUR: 'it returns false'. Refute it at one input. -/
def phasekingIgnoredDeviationsWrong : ChangeSpec := { name := "phasekingIgnoredDeviations", fn := fun _ => fun
  | [d] => { results := [.lit (.bool false)], args := [d] }
  | _ => none }
def PhasekingIgnoredDeviationsWrongFalsely : Prop := phasekingIgnoredDeviationsRow.holds Tryd.pinned (OpenSpec.ofChange phasekingIgnoredDeviationsWrong)

/-- 'privitylaw16.PhasekingCorruptInputs': WHATEVER THE INPUT: true; the input reads as it did. -/
def phasekingCorruptInputsSpec : ChangeSpec := { name := "phasekingCorruptInputs", fn := fun _ => fun
  | [d1, d2, d3] => { results := [.lit (.bool true)], args := [d1, d2, d3] }
  | _ => none }
def phasekingCorruptInputsRow : OpenClaim := { program := "ytbkhamjlfadfoaadoor", sum := "9f0524d577d5e6ac30c5b5132de224f5d89aac45c80dd08fc89803da809f3091", func := "privity/privitylaw16.PhasekingCorruptInputs", spec := "phasekingCorruptInputs", inPlace := ["math/bits.Add64"], unfollowed := true, recurses := true, named := ["privity/field.exps"], apart := false, laid := [("privity/field.exps", laid_privity_field_exps)] }
def PhasekingCorruptInputsSaid : Prop := phasekingCorruptInputsRow.holds Tryd.pinned (OpenSpec.ofChange phasekingCorruptInputsSpec)

/-- ITS FALSE NEIGHBOUR: 'it returns false'. Refute it at one input. -/
def phasekingCorruptInputsWrong : ChangeSpec := { name := "phasekingCorruptInputs", fn := fun _ => fun
  | [d1, d2, d3] => { results := [.lit (.bool false)], args := [d1, d2, d3] }
  | _ => none }
def PhasekingCorruptInputsWrongFalsely : Prop := phasekingCorruptInputsRow.holds Tryd.pinned (OpenSpec.ofChange phasekingCorruptInputsWrong)

/-- 'privitylaw16.PhasekingAgree': WHATEVER THE INPUT: true; the input reads as it did. -/
def phasekingAgreeSpec : ChangeSpec := { name := "phasekingAgree", fn := fun _ => fun
  | [d] => { results := [.lit (.bool true)], args := [d] }
  | _ => none }
def phasekingAgreeRow : OpenClaim := { program := "ytbkhamjlfadfoaadoor", sum := "9f0524d577d5e6ac30c5b5132de224f5d89aac45c80dd08fc89803da809f3091", func := "privity/privitylaw16.PhasekingAgree", spec := "phasekingAgree", inPlace := ["math/bits.Add64"], unfollowed := true, recurses := true, named := ["privity/field.exps"], apart := false, laid := [("privity/field.exps", laid_privity_field_exps)] }
def PhasekingAgreeSaid : Prop := phasekingAgreeRow.holds Tryd.pinned (OpenSpec.ofChange phasekingAgreeSpec)

/-- ITS FALSE NEIGHBOUR: 'it returns false'. Refute it at one input. -/
def phasekingAgreeWrong : ChangeSpec := { name := "phasekingAgree", fn := fun _ => fun
  | [d] => { results := [.lit (.bool false)], args := [d] }
  | _ => none }
def PhasekingAgreeWrongFalsely : Prop := phasekingAgreeRow.holds Tryd.pinned (OpenSpec.ofChange phasekingAgreeWrong)

/-- 'privitylaw17.BroadcastAgreementAndValidity': WHATEVER THE INPUT: true; the input reads as it did. -/
def broadcastAgreementAndValiditySpec : ChangeSpec := { name := "broadcastAgreementAndValidity", fn := fun _ => fun
  | [d] => { results := [.lit (.bool true)], args := [d] }
  | _ => none }
def broadcastAgreementAndValidityRow : OpenClaim := { program := "ytbkhamjlfadfoaadoor", sum := "9f0524d577d5e6ac30c5b5132de224f5d89aac45c80dd08fc89803da809f3091", func := "privity/privitylaw17.BroadcastAgreementAndValidity", spec := "broadcastAgreementAndValidity", inPlace := ["math/bits.Add64"], unfollowed := true, recurses := true, named := ["privity/field.exps"], apart := false, laid := [("privity/field.exps", laid_privity_field_exps)] }
def BroadcastAgreementAndValiditySaid : Prop := broadcastAgreementAndValidityRow.holds Tryd.pinned (OpenSpec.ofChange broadcastAgreementAndValiditySpec)

/-- ITS FALSE NEIGHBOUR: 'it returns false'. Refute it at one input. -/
def broadcastAgreementAndValidityWrong : ChangeSpec := { name := "broadcastAgreementAndValidity", fn := fun _ => fun
  | [d] => { results := [.lit (.bool false)], args := [d] }
  | _ => none }
def BroadcastAgreementAndValidityWrongFalsely : Prop := broadcastAgreementAndValidityRow.holds Tryd.pinned (OpenSpec.ofChange broadcastAgreementAndValidityWrong)

/-- 'privitylaw17.BroadcastRoundCount': WHATEVER THE INPUT: true; the input reads as it did. -/
def broadcastRoundCountSpec : ChangeSpec := { name := "broadcastRoundCount", fn := fun _ => fun
  | [d] => { results := [.lit (.bool true)], args := [d] }
  | _ => none }
def broadcastRoundCountRow : OpenClaim := { program := "ytbkhamjlfadfoaadoor", sum := "9f0524d577d5e6ac30c5b5132de224f5d89aac45c80dd08fc89803da809f3091", func := "privity/privitylaw17.BroadcastRoundCount", spec := "broadcastRoundCount", inPlace := ["math/bits.Add64"], unfollowed := true, recurses := true, named := ["privity/field.exps"], apart := false, laid := [("privity/field.exps", laid_privity_field_exps)] }
def BroadcastRoundCountSaid : Prop := broadcastRoundCountRow.holds Tryd.pinned (OpenSpec.ofChange broadcastRoundCountSpec)

/-- ITS FALSE NEIGHBOUR: 'it returns false'. Refute it at one input. -/
def broadcastRoundCountWrong : ChangeSpec := { name := "broadcastRoundCount", fn := fun _ => fun
  | [d] => { results := [.lit (.bool false)], args := [d] }
  | _ => none }
def BroadcastRoundCountWrongFalsely : Prop := broadcastRoundCountRow.holds Tryd.pinned (OpenSpec.ofChange broadcastRoundCountWrong)

/-- 'privitylaw17.BroadcastConsistentSenderIsAccepted': WHATEVER THE INPUT: true; the input reads as it did. -/
def broadcastConsistentSenderIsAcceptedSpec : ChangeSpec := { name := "broadcastConsistentSenderIsAccepted", fn := fun _ => fun
  | [d] => { results := [.lit (.bool true)], args := [d] }
  | _ => none }
def broadcastConsistentSenderIsAcceptedRow : OpenClaim := { program := "ytbkhamjlfadfoaadoor", sum := "9f0524d577d5e6ac30c5b5132de224f5d89aac45c80dd08fc89803da809f3091", func := "privity/privitylaw17.BroadcastConsistentSenderIsAccepted", spec := "broadcastConsistentSenderIsAccepted", inPlace := ["math/bits.Add64"], unfollowed := true, recurses := true, named := ["privity/field.exps"], apart := false, laid := [("privity/field.exps", laid_privity_field_exps)] }
def BroadcastConsistentSenderIsAcceptedSaid : Prop := broadcastConsistentSenderIsAcceptedRow.holds Tryd.pinned (OpenSpec.ofChange broadcastConsistentSenderIsAcceptedSpec)

/-- ITS FALSE NEIGHBOUR: 'it returns false'. Refute it at one input. -/
def broadcastConsistentSenderIsAcceptedWrong : ChangeSpec := { name := "broadcastConsistentSenderIsAccepted", fn := fun _ => fun
  | [d] => { results := [.lit (.bool false)], args := [d] }
  | _ => none }
def BroadcastConsistentSenderIsAcceptedWrongFalsely : Prop := broadcastConsistentSenderIsAcceptedRow.holds Tryd.pinned (OpenSpec.ofChange broadcastConsistentSenderIsAcceptedWrong)

/-- 'privitylaw17.BroadcastMatchesReference': WHATEVER THE INPUT: true; the input reads as it did. -/
def broadcastMatchesReferenceSpec : ChangeSpec := { name := "broadcastMatchesReference", fn := fun _ => fun
  | [d] => { results := [.lit (.bool true)], args := [d] }
  | _ => none }
def broadcastMatchesReferenceRow : OpenClaim := { program := "ytbkhamjlfadfoaadoor", sum := "9f0524d577d5e6ac30c5b5132de224f5d89aac45c80dd08fc89803da809f3091", func := "privity/privitylaw17.BroadcastMatchesReference", spec := "broadcastMatchesReference", inPlace := ["math/bits.Add64"], unfollowed := true, recurses := true, named := ["privity/field.exps"], apart := false, laid := [("privity/field.exps", laid_privity_field_exps)] }
def BroadcastMatchesReferenceSaid : Prop := broadcastMatchesReferenceRow.holds Tryd.pinned (OpenSpec.ofChange broadcastMatchesReferenceSpec)

/-- ITS FALSE NEIGHBOUR: 'it returns false'. Refute it at one input. -/
def broadcastMatchesReferenceWrong : ChangeSpec := { name := "broadcastMatchesReference", fn := fun _ => fun
  | [d] => { results := [.lit (.bool false)], args := [d] }
  | _ => none }
def BroadcastMatchesReferenceWrongFalsely : Prop := broadcastMatchesReferenceRow.holds Tryd.pinned (OpenSpec.ofChange broadcastMatchesReferenceWrong)

/-- 'privitylaw17.BroadcastEqualsIdealBroadcast': WHATEVER THE INPUT: true; the input reads as it did. -/
def broadcastEqualsIdealBroadcastSpec : ChangeSpec := { name := "broadcastEqualsIdealBroadcast", fn := fun _ => fun
  | [d] => { results := [.lit (.bool true)], args := [d] }
  | _ => none }
def broadcastEqualsIdealBroadcastRow : OpenClaim := { program := "ytbkhamjlfadfoaadoor", sum := "9f0524d577d5e6ac30c5b5132de224f5d89aac45c80dd08fc89803da809f3091", func := "privity/privitylaw17.BroadcastEqualsIdealBroadcast", spec := "broadcastEqualsIdealBroadcast", inPlace := ["math/bits.Add64"], unfollowed := true, recurses := true, named := ["privity/field.exps"], apart := false, laid := [("privity/field.exps", laid_privity_field_exps)] }
def BroadcastEqualsIdealBroadcastSaid : Prop := broadcastEqualsIdealBroadcastRow.holds Tryd.pinned (OpenSpec.ofChange broadcastEqualsIdealBroadcastSpec)

/-- ITS FALSE NEIGHBOUR: 'it returns false'. Refute it at one input. -/
def broadcastEqualsIdealBroadcastWrong : ChangeSpec := { name := "broadcastEqualsIdealBroadcast", fn := fun _ => fun
  | [d] => { results := [.lit (.bool false)], args := [d] }
  | _ => none }
def BroadcastEqualsIdealBroadcastWrongFalsely : Prop := broadcastEqualsIdealBroadcastRow.holds Tryd.pinned (OpenSpec.ofChange broadcastEqualsIdealBroadcastWrong)

/- THE SECOND FORM. 'bulk': how many values and letters a reading holds, each counted each time it is reached (what is shared counts as often as it is met; a slice's spare places count too). A statement '..UptoSaid' is the law's where the arguments, and the package variables that the reading takes, are together of bulk at most 1048576: NARROWER than '..Said'. Prove '..Said' where nothing that the law and all that it calls make is longer than what came in: it says more and counts as full. Else prove '..UptoSaid'. A law counts once. -/
mutual
def uptoBulk {H : Type} : DataW H → Nat
  | .lit (.string bytes) => bytes.length + 1
  | .lit _ => 1
  | .nil => 1
  | .ptr d => uptoBulk d + 1
  | .slice elems spare => uptoBulkAll elems + uptoBulkAll spare + 1
  | .agg parts => uptoBulkAll parts + 1
  | .iface _ d => uptoBulk d + 1
  | .map entries => uptoBulkEntries entries + 1
  | .held _ => 1
def uptoBulkAll {H : Type} : List (DataW H) → Nat
  | [] => 0
  | d :: r => uptoBulk d + uptoBulkAll r
def uptoBulkEntries {H : Type} : List (Lit × DataW H) → Nat
  | [] => 0
  | x :: r => uptoBulkEntry x + uptoBulkEntries r
def uptoBulkEntry {H : Type} : Lit × DataW H → Nat
  | (.string bytes, d) => bytes.length + uptoBulk d + 1
  | (_, d) => uptoBulk d + 1
 end
def uptoSmall : (H : Type) → List (DataW H) → Bool := fun _ ds => decide (uptoBulkAll ds ≤ 1048576)
def OpenSpec.upto (s : _root_.Go.ChangeSpec) : _root_.Go.OpenSpec := { _root_.Go.OpenSpec.ofChange s with cond := some uptoSmall }

/-- 'privitylaw16.PhasekingAgreement', WHERE WHAT IT READS IS OF BULK AT MOST 1048576: true; the input reads as it did. -/
def phasekingAgreementUptoRow : OpenClaim := { program := "ytbkhamjlfadfoaadoor", sum := "9f0524d577d5e6ac30c5b5132de224f5d89aac45c80dd08fc89803da809f3091", func := "privity/privitylaw16.PhasekingAgreement", spec := "phasekingAgreement", inPlace := ["math/bits.Add64"], unfollowed := true, recurses := true, named := ["privity/field.exps"], apart := false, laid := [("privity/field.exps", laid_privity_field_exps)], narrowed := true }
def PhasekingAgreementUptoSaid : Prop := phasekingAgreementUptoRow.holds Tryd.pinned (OpenSpec.upto phasekingAgreementSpec)

/-- 'privitylaw16.PhasekingValidity', WHERE WHAT IT READS IS OF BULK AT MOST 1048576: true; the input reads as it did. -/
def phasekingValidityUptoRow : OpenClaim := { program := "ytbkhamjlfadfoaadoor", sum := "9f0524d577d5e6ac30c5b5132de224f5d89aac45c80dd08fc89803da809f3091", func := "privity/privitylaw16.PhasekingValidity", spec := "phasekingValidity", inPlace := ["math/bits.Add64"], unfollowed := true, recurses := true, named := ["privity/field.exps"], apart := false, laid := [("privity/field.exps", laid_privity_field_exps)], narrowed := true }
def PhasekingValidityUptoSaid : Prop := phasekingValidityUptoRow.holds Tryd.pinned (OpenSpec.upto phasekingValiditySpec)

/-- 'privitylaw16.PhasekingRounds', WHERE WHAT IT READS IS OF BULK AT MOST 1048576: true; the input reads as it did. -/
def phasekingRoundsUptoRow : OpenClaim := { program := "ytbkhamjlfadfoaadoor", sum := "9f0524d577d5e6ac30c5b5132de224f5d89aac45c80dd08fc89803da809f3091", func := "privity/privitylaw16.PhasekingRounds", spec := "phasekingRounds", inPlace := ["math/bits.Add64"], unfollowed := true, recurses := true, named := ["privity/field.exps"], apart := false, laid := [("privity/field.exps", laid_privity_field_exps)], narrowed := true }
def PhasekingRoundsUptoSaid : Prop := phasekingRoundsUptoRow.holds Tryd.pinned (OpenSpec.upto phasekingRoundsSpec)

/-- 'privitylaw16.PhasekingIdempotent', WHERE WHAT IT READS IS OF BULK AT MOST 1048576: true; the input reads as it did. -/
def phasekingIdempotentUptoRow : OpenClaim := { program := "ytbkhamjlfadfoaadoor", sum := "9f0524d577d5e6ac30c5b5132de224f5d89aac45c80dd08fc89803da809f3091", func := "privity/privitylaw16.PhasekingIdempotent", spec := "phasekingIdempotent", inPlace := ["math/bits.Add64"], unfollowed := true, recurses := true, named := ["privity/field.exps"], apart := false, laid := [("privity/field.exps", laid_privity_field_exps)], narrowed := true }
def PhasekingIdempotentUptoSaid : Prop := phasekingIdempotentUptoRow.holds Tryd.pinned (OpenSpec.upto phasekingIdempotentSpec)

/-- 'privitylaw16.PhasekingNoDeviations', WHERE WHAT IT READS IS OF BULK AT MOST 1048576: true; the input reads as it did. -/
def phasekingNoDeviationsUptoRow : OpenClaim := { program := "ytbkhamjlfadfoaadoor", sum := "9f0524d577d5e6ac30c5b5132de224f5d89aac45c80dd08fc89803da809f3091", func := "privity/privitylaw16.PhasekingNoDeviations", spec := "phasekingNoDeviations", inPlace := ["math/bits.Add64"], unfollowed := true, recurses := true, named := ["privity/field.exps"], apart := false, laid := [("privity/field.exps", laid_privity_field_exps)], narrowed := true }
def PhasekingNoDeviationsUptoSaid : Prop := phasekingNoDeviationsUptoRow.holds Tryd.pinned (OpenSpec.upto phasekingNoDeviationsSpec)

/-- 'privitylaw16.PhasekingIgnoredDeviations', WHERE WHAT IT READS IS OF BULK AT MOST 1048576: true; the input reads as it did. -/
def phasekingIgnoredDeviationsUptoRow : OpenClaim := { program := "ytbkhamjlfadfoaadoor", sum := "9f0524d577d5e6ac30c5b5132de224f5d89aac45c80dd08fc89803da809f3091", func := "privity/privitylaw16.PhasekingIgnoredDeviations", spec := "phasekingIgnoredDeviations", inPlace := ["math/bits.Add64"], unfollowed := true, recurses := true, named := ["privity/field.exps"], apart := false, laid := [("privity/field.exps", laid_privity_field_exps)], narrowed := true }
def PhasekingIgnoredDeviationsUptoSaid : Prop := phasekingIgnoredDeviationsUptoRow.holds Tryd.pinned (OpenSpec.upto phasekingIgnoredDeviationsSpec)

/-- 'privitylaw16.PhasekingCorruptInputs', WHERE WHAT IT READS IS OF BULK AT MOST 1048576: true; the input reads as it did. -/
def phasekingCorruptInputsUptoRow : OpenClaim := { program := "ytbkhamjlfadfoaadoor", sum := "9f0524d577d5e6ac30c5b5132de224f5d89aac45c80dd08fc89803da809f3091", func := "privity/privitylaw16.PhasekingCorruptInputs", spec := "phasekingCorruptInputs", inPlace := ["math/bits.Add64"], unfollowed := true, recurses := true, named := ["privity/field.exps"], apart := false, laid := [("privity/field.exps", laid_privity_field_exps)], narrowed := true }
def PhasekingCorruptInputsUptoSaid : Prop := phasekingCorruptInputsUptoRow.holds Tryd.pinned (OpenSpec.upto phasekingCorruptInputsSpec)

/-- 'privitylaw16.PhasekingAgree', WHERE WHAT IT READS IS OF BULK AT MOST 1048576: true; the input reads as it did. -/
def phasekingAgreeUptoRow : OpenClaim := { program := "ytbkhamjlfadfoaadoor", sum := "9f0524d577d5e6ac30c5b5132de224f5d89aac45c80dd08fc89803da809f3091", func := "privity/privitylaw16.PhasekingAgree", spec := "phasekingAgree", inPlace := ["math/bits.Add64"], unfollowed := true, recurses := true, named := ["privity/field.exps"], apart := false, laid := [("privity/field.exps", laid_privity_field_exps)], narrowed := true }
def PhasekingAgreeUptoSaid : Prop := phasekingAgreeUptoRow.holds Tryd.pinned (OpenSpec.upto phasekingAgreeSpec)

/-- 'privitylaw17.BroadcastAgreementAndValidity', WHERE WHAT IT READS IS OF BULK AT MOST 1048576: true; the input reads as it did. -/
def broadcastAgreementAndValidityUptoRow : OpenClaim := { program := "ytbkhamjlfadfoaadoor", sum := "9f0524d577d5e6ac30c5b5132de224f5d89aac45c80dd08fc89803da809f3091", func := "privity/privitylaw17.BroadcastAgreementAndValidity", spec := "broadcastAgreementAndValidity", inPlace := ["math/bits.Add64"], unfollowed := true, recurses := true, named := ["privity/field.exps"], apart := false, laid := [("privity/field.exps", laid_privity_field_exps)], narrowed := true }
def BroadcastAgreementAndValidityUptoSaid : Prop := broadcastAgreementAndValidityUptoRow.holds Tryd.pinned (OpenSpec.upto broadcastAgreementAndValiditySpec)

/-- 'privitylaw17.BroadcastRoundCount', WHERE WHAT IT READS IS OF BULK AT MOST 1048576: true; the input reads as it did. -/
def broadcastRoundCountUptoRow : OpenClaim := { program := "ytbkhamjlfadfoaadoor", sum := "9f0524d577d5e6ac30c5b5132de224f5d89aac45c80dd08fc89803da809f3091", func := "privity/privitylaw17.BroadcastRoundCount", spec := "broadcastRoundCount", inPlace := ["math/bits.Add64"], unfollowed := true, recurses := true, named := ["privity/field.exps"], apart := false, laid := [("privity/field.exps", laid_privity_field_exps)], narrowed := true }
def BroadcastRoundCountUptoSaid : Prop := broadcastRoundCountUptoRow.holds Tryd.pinned (OpenSpec.upto broadcastRoundCountSpec)

/-- 'privitylaw17.BroadcastConsistentSenderIsAccepted', WHERE WHAT IT READS IS OF BULK AT MOST 1048576: true; the input reads as it did. -/
def broadcastConsistentSenderIsAcceptedUptoRow : OpenClaim := { program := "ytbkhamjlfadfoaadoor", sum := "9f0524d577d5e6ac30c5b5132de224f5d89aac45c80dd08fc89803da809f3091", func := "privity/privitylaw17.BroadcastConsistentSenderIsAccepted", spec := "broadcastConsistentSenderIsAccepted", inPlace := ["math/bits.Add64"], unfollowed := true, recurses := true, named := ["privity/field.exps"], apart := false, laid := [("privity/field.exps", laid_privity_field_exps)], narrowed := true }
def BroadcastConsistentSenderIsAcceptedUptoSaid : Prop := broadcastConsistentSenderIsAcceptedUptoRow.holds Tryd.pinned (OpenSpec.upto broadcastConsistentSenderIsAcceptedSpec)

/-- 'privitylaw17.BroadcastMatchesReference', WHERE WHAT IT READS IS OF BULK AT MOST 1048576: true; the input reads as it did. -/
def broadcastMatchesReferenceUptoRow : OpenClaim := { program := "ytbkhamjlfadfoaadoor", sum := "9f0524d577d5e6ac30c5b5132de224f5d89aac45c80dd08fc89803da809f3091", func := "privity/privitylaw17.BroadcastMatchesReference", spec := "broadcastMatchesReference", inPlace := ["math/bits.Add64"], unfollowed := true, recurses := true, named := ["privity/field.exps"], apart := false, laid := [("privity/field.exps", laid_privity_field_exps)], narrowed := true }
def BroadcastMatchesReferenceUptoSaid : Prop := broadcastMatchesReferenceUptoRow.holds Tryd.pinned (OpenSpec.upto broadcastMatchesReferenceSpec)

/-- 'privitylaw17.BroadcastEqualsIdealBroadcast', WHERE WHAT IT READS IS OF BULK AT MOST 1048576: true; the input reads as it did. -/
def broadcastEqualsIdealBroadcastUptoRow : OpenClaim := { program := "ytbkhamjlfadfoaadoor", sum := "9f0524d577d5e6ac30c5b5132de224f5d89aac45c80dd08fc89803da809f3091", func := "privity/privitylaw17.BroadcastEqualsIdealBroadcast", spec := "broadcastEqualsIdealBroadcast", inPlace := ["math/bits.Add64"], unfollowed := true, recurses := true, named := ["privity/field.exps"], apart := false, laid := [("privity/field.exps", laid_privity_field_exps)], narrowed := true }
def BroadcastEqualsIdealBroadcastUptoSaid : Prop := broadcastEqualsIdealBroadcastUptoRow.holds Tryd.pinned (OpenSpec.upto broadcastEqualsIdealBroadcastSpec)

end Rows
end Go.Proofs.YtbkhamjlfadfoaaDoor
