/-
  NARROWER THAN 'FOR EVERY INPUT', by the rows' own cells (each row's printed sentence says how): NetworkNew: laid · NetworkHonestDelivery: laid · NetworkPointToPoint: laid · NetworkViewOrder: laid · NetworkResize: laid · NetworkNoDeviations: laid · NetworkHonestTrafficHidden: laid · NetworkExecution: laid · NetworkTapes: laid.
  DERIVED. THE GIVEN ROWS OF THIS SEAT. 9 by the template 'for every input the law returns true; each argument reads behind the call as it read before'; 0 by the template 'total and deterministic' (their statements: YtjdgcblikhkioaaDoorTotals.lean).
  GIVEN WITH THE SEED: the statements are not yours to turn. If you find one false, say at which input.
  Laid BY PROGRAM, IN A SANDBOX (cutbox-rows.mjs): the forced cells as the released guide's own fill.sh prints them over the translation 8e6560c43ba22a5c… (all of the seat's roots in one cut). By AI agents, Wed Nov 11 2026. No macro, syntax, notation, axiom, sorry.
-/
import Derived.Test.YtjdgcblikhkioaaDoorChecked
import GoSem.Claim
import GoSem.ClaimJoined
import GoSem.ClaimMapViews
import Derived.JoinedTies
import Derived.KernelRfl
namespace Go.Proofs.YtjdgcblikhkioaaDoor
/- THE CELL 'sum', in the pinned program and in every row, IS THE sha256 OF THE DUMP (.gsa) THAT YtjdgcblikhkioaaDoorProg.lean LOADS. Nothing in Lean hashes anything: it is a label: what it is worth is what the hold of that sum in a sandbox is worth. -/
noncomputable def Tryd.pinned : Pinned := { name := "ytjdgcblikhkioaadoor", sum := "8e6560c43ba22a5cf282919f1d7ebd707d0cc91a478eeba17d4c3682b7c620fe", checked := Tryd.checked }
namespace Rows
def none {H : Type} : Left H := { results := [], args := [] }

/- WHAT THE LISTED PACKAGE-LEVEL VARIABLES READ AS WHEN THE CALL BEGINS. Each datum BY PROGRAM (the guide's laid-datum.mjs) off the statement by which the dump's own 'gosem.cut.vars' lays the variable. In a bare row this is a premise. The card (YtjdgcblikhkioaaDoorCards.lean) ties it to the program's text. -/
def laid_privity_field_exps {H : Type} : DataW H := .agg [.lit (.int .i64 5), .lit (.int .i64 7), .lit (.int .i64 13), .lit (.int .i64 17), .lit (.int .i64 19), .lit (.int .i64 31), .lit (.int .i64 61)]

/-- 'privitylaw14.NetworkNew': WHATEVER THE INPUT: true; the input reads as it did. -/
def networkNewSpec : ChangeSpec := { name := "networkNew", fn := fun _ => fun
  | [d] => { results := [.lit (.bool true)], args := [d] }
  | _ => none }
def networkNewRow : OpenClaim := { program := "ytjdgcblikhkioaadoor", sum := "8e6560c43ba22a5cf282919f1d7ebd707d0cc91a478eeba17d4c3682b7c620fe", func := "privity/privitylaw14.NetworkNew", spec := "networkNew", inPlace := ["math/bits.Add64"], unfollowed := true, recurses := true, named := ["privity/field.exps"], apart := false, laid := [("privity/field.exps", laid_privity_field_exps)] }
def NetworkNewSaid : Prop := networkNewRow.holds Tryd.pinned (OpenSpec.ofChange networkNewSpec)

/-- ITS FALSE NEIGHBOUR: 'it returns false'. Refute it at one input. -/
def networkNewWrong : ChangeSpec := { name := "networkNew", fn := fun _ => fun
  | [d] => { results := [.lit (.bool false)], args := [d] }
  | _ => none }
def NetworkNewWrongFalsely : Prop := networkNewRow.holds Tryd.pinned (OpenSpec.ofChange networkNewWrong)

/-- 'privitylaw14.NetworkHonestDelivery': WHATEVER THE INPUT: true; the input reads as it did. -/
def networkHonestDeliverySpec : ChangeSpec := { name := "networkHonestDelivery", fn := fun _ => fun
  | [d] => { results := [.lit (.bool true)], args := [d] }
  | _ => none }
def networkHonestDeliveryRow : OpenClaim := { program := "ytjdgcblikhkioaadoor", sum := "8e6560c43ba22a5cf282919f1d7ebd707d0cc91a478eeba17d4c3682b7c620fe", func := "privity/privitylaw14.NetworkHonestDelivery", spec := "networkHonestDelivery", inPlace := ["math/bits.Add64"], unfollowed := true, recurses := true, named := ["privity/field.exps"], apart := false, laid := [("privity/field.exps", laid_privity_field_exps)] }
def NetworkHonestDeliverySaid : Prop := networkHonestDeliveryRow.holds Tryd.pinned (OpenSpec.ofChange networkHonestDeliverySpec)

/-- ITS FALSE NEIGHBOUR: 'it returns false'. Refute it at one input. -/
def networkHonestDeliveryWrong : ChangeSpec := { name := "networkHonestDelivery", fn := fun _ => fun
  | [d] => { results := [.lit (.bool false)], args := [d] }
  | _ => none }
def NetworkHonestDeliveryWrongFalsely : Prop := networkHonestDeliveryRow.holds Tryd.pinned (OpenSpec.ofChange networkHonestDeliveryWrong)

/-- 'privitylaw14.NetworkPointToPoint': WHATEVER THE INPUT: true; the input reads as it did. -/
def networkPointToPointSpec : ChangeSpec := { name := "networkPointToPoint", fn := fun _ => fun
  | [d1, d2, d3] => { results := [.lit (.bool true)], args := [d1, d2, d3] }
  | _ => none }
def networkPointToPointRow : OpenClaim := { program := "ytjdgcblikhkioaadoor", sum := "8e6560c43ba22a5cf282919f1d7ebd707d0cc91a478eeba17d4c3682b7c620fe", func := "privity/privitylaw14.NetworkPointToPoint", spec := "networkPointToPoint", inPlace := ["math/bits.Add64"], unfollowed := true, recurses := true, named := ["privity/field.exps"], apart := false, laid := [("privity/field.exps", laid_privity_field_exps)] }
def NetworkPointToPointSaid : Prop := networkPointToPointRow.holds Tryd.pinned (OpenSpec.ofChange networkPointToPointSpec)

/-- ITS FALSE NEIGHBOUR: 'it returns false'. Refute it at one input. -/
def networkPointToPointWrong : ChangeSpec := { name := "networkPointToPoint", fn := fun _ => fun
  | [d1, d2, d3] => { results := [.lit (.bool false)], args := [d1, d2, d3] }
  | _ => none }
def NetworkPointToPointWrongFalsely : Prop := networkPointToPointRow.holds Tryd.pinned (OpenSpec.ofChange networkPointToPointWrong)

/-- 'privitylaw14.NetworkViewOrder': WHATEVER THE INPUT: true; the input reads as it did. -/
def networkViewOrderSpec : ChangeSpec := { name := "networkViewOrder", fn := fun _ => fun
  | [d] => { results := [.lit (.bool true)], args := [d] }
  | _ => none }
def networkViewOrderRow : OpenClaim := { program := "ytjdgcblikhkioaadoor", sum := "8e6560c43ba22a5cf282919f1d7ebd707d0cc91a478eeba17d4c3682b7c620fe", func := "privity/privitylaw14.NetworkViewOrder", spec := "networkViewOrder", inPlace := ["math/bits.Add64"], unfollowed := true, recurses := true, named := ["privity/field.exps"], apart := false, laid := [("privity/field.exps", laid_privity_field_exps)] }
def NetworkViewOrderSaid : Prop := networkViewOrderRow.holds Tryd.pinned (OpenSpec.ofChange networkViewOrderSpec)

/-- ITS FALSE NEIGHBOUR: 'it returns false'. Refute it at one input. -/
def networkViewOrderWrong : ChangeSpec := { name := "networkViewOrder", fn := fun _ => fun
  | [d] => { results := [.lit (.bool false)], args := [d] }
  | _ => none }
def NetworkViewOrderWrongFalsely : Prop := networkViewOrderRow.holds Tryd.pinned (OpenSpec.ofChange networkViewOrderWrong)

/-- 'privitylaw14.NetworkResize': WHATEVER THE INPUT: true; the input reads as it did. -/
def networkResizeSpec : ChangeSpec := { name := "networkResize", fn := fun _ => fun
  | [d1, d2] => { results := [.lit (.bool true)], args := [d1, d2] }
  | _ => none }
def networkResizeRow : OpenClaim := { program := "ytjdgcblikhkioaadoor", sum := "8e6560c43ba22a5cf282919f1d7ebd707d0cc91a478eeba17d4c3682b7c620fe", func := "privity/privitylaw14.NetworkResize", spec := "networkResize", inPlace := ["math/bits.Add64"], unfollowed := true, recurses := true, named := ["privity/field.exps"], apart := false, laid := [("privity/field.exps", laid_privity_field_exps)] }
def NetworkResizeSaid : Prop := networkResizeRow.holds Tryd.pinned (OpenSpec.ofChange networkResizeSpec)

/-- ITS FALSE NEIGHBOUR: 'it returns false'. Refute it at one input. -/
def networkResizeWrong : ChangeSpec := { name := "networkResize", fn := fun _ => fun
  | [d1, d2] => { results := [.lit (.bool false)], args := [d1, d2] }
  | _ => none }
def NetworkResizeWrongFalsely : Prop := networkResizeRow.holds Tryd.pinned (OpenSpec.ofChange networkResizeWrong)

/-- 'privitylaw14.NetworkNoDeviations': WHATEVER THE INPUT: true; the input reads as it did. -/
def networkNoDeviationsSpec : ChangeSpec := { name := "networkNoDeviations", fn := fun _ => fun
  | [d] => { results := [.lit (.bool true)], args := [d] }
  | _ => none }
def networkNoDeviationsRow : OpenClaim := { program := "ytjdgcblikhkioaadoor", sum := "8e6560c43ba22a5cf282919f1d7ebd707d0cc91a478eeba17d4c3682b7c620fe", func := "privity/privitylaw14.NetworkNoDeviations", spec := "networkNoDeviations", inPlace := ["math/bits.Add64"], unfollowed := true, recurses := true, named := ["privity/field.exps"], apart := false, laid := [("privity/field.exps", laid_privity_field_exps)] }
def NetworkNoDeviationsSaid : Prop := networkNoDeviationsRow.holds Tryd.pinned (OpenSpec.ofChange networkNoDeviationsSpec)

/-- ITS FALSE NEIGHBOUR: 'it returns false'. Refute it at one input. -/
def networkNoDeviationsWrong : ChangeSpec := { name := "networkNoDeviations", fn := fun _ => fun
  | [d] => { results := [.lit (.bool false)], args := [d] }
  | _ => none }
def NetworkNoDeviationsWrongFalsely : Prop := networkNoDeviationsRow.holds Tryd.pinned (OpenSpec.ofChange networkNoDeviationsWrong)

/-- 'privitylaw14.NetworkHonestTrafficHidden': WHATEVER THE INPUT: true; the input reads as it did. -/
def networkHonestTrafficHiddenSpec : ChangeSpec := { name := "networkHonestTrafficHidden", fn := fun _ => fun
  | [d1, d2, d3] => { results := [.lit (.bool true)], args := [d1, d2, d3] }
  | _ => none }
def networkHonestTrafficHiddenRow : OpenClaim := { program := "ytjdgcblikhkioaadoor", sum := "8e6560c43ba22a5cf282919f1d7ebd707d0cc91a478eeba17d4c3682b7c620fe", func := "privity/privitylaw14.NetworkHonestTrafficHidden", spec := "networkHonestTrafficHidden", inPlace := ["math/bits.Add64"], unfollowed := true, recurses := true, named := ["privity/field.exps"], apart := false, laid := [("privity/field.exps", laid_privity_field_exps)] }
def NetworkHonestTrafficHiddenSaid : Prop := networkHonestTrafficHiddenRow.holds Tryd.pinned (OpenSpec.ofChange networkHonestTrafficHiddenSpec)

/-- ITS FALSE NEIGHBOUR: 'it returns false'. Refute it at one input. -/
def networkHonestTrafficHiddenWrong : ChangeSpec := { name := "networkHonestTrafficHidden", fn := fun _ => fun
  | [d1, d2, d3] => { results := [.lit (.bool false)], args := [d1, d2, d3] }
  | _ => none }
def NetworkHonestTrafficHiddenWrongFalsely : Prop := networkHonestTrafficHiddenRow.holds Tryd.pinned (OpenSpec.ofChange networkHonestTrafficHiddenWrong)

/-- 'privitylaw14.NetworkExecution': WHATEVER THE INPUT: true; the input reads as it did. -/
def networkExecutionSpec : ChangeSpec := { name := "networkExecution", fn := fun _ => fun
  | [d] => { results := [.lit (.bool true)], args := [d] }
  | _ => none }
def networkExecutionRow : OpenClaim := { program := "ytjdgcblikhkioaadoor", sum := "8e6560c43ba22a5cf282919f1d7ebd707d0cc91a478eeba17d4c3682b7c620fe", func := "privity/privitylaw14.NetworkExecution", spec := "networkExecution", inPlace := ["math/bits.Add64"], unfollowed := true, recurses := true, named := ["privity/field.exps"], apart := false, laid := [("privity/field.exps", laid_privity_field_exps)] }
def NetworkExecutionSaid : Prop := networkExecutionRow.holds Tryd.pinned (OpenSpec.ofChange networkExecutionSpec)

/-- ITS FALSE NEIGHBOUR: 'it returns false'. Refute it at one input. -/
def networkExecutionWrong : ChangeSpec := { name := "networkExecution", fn := fun _ => fun
  | [d] => { results := [.lit (.bool false)], args := [d] }
  | _ => none }
def NetworkExecutionWrongFalsely : Prop := networkExecutionRow.holds Tryd.pinned (OpenSpec.ofChange networkExecutionWrong)

/-- 'privitylaw14.NetworkTapes': WHATEVER THE INPUT: true; the input reads as it did. -/
def networkTapesSpec : ChangeSpec := { name := "networkTapes", fn := fun _ => fun
  | [d1, d2, d3] => { results := [.lit (.bool true)], args := [d1, d2, d3] }
  | _ => none }
def networkTapesRow : OpenClaim := { program := "ytjdgcblikhkioaadoor", sum := "8e6560c43ba22a5cf282919f1d7ebd707d0cc91a478eeba17d4c3682b7c620fe", func := "privity/privitylaw14.NetworkTapes", spec := "networkTapes", inPlace := ["math/bits.Add64"], unfollowed := true, recurses := true, named := ["privity/field.exps"], apart := false, laid := [("privity/field.exps", laid_privity_field_exps)] }
def NetworkTapesSaid : Prop := networkTapesRow.holds Tryd.pinned (OpenSpec.ofChange networkTapesSpec)

/-- ITS FALSE NEIGHBOUR: 'it returns false'. Refute it at one input. -/
def networkTapesWrong : ChangeSpec := { name := "networkTapes", fn := fun _ => fun
  | [d1, d2, d3] => { results := [.lit (.bool false)], args := [d1, d2, d3] }
  | _ => none }
def NetworkTapesWrongFalsely : Prop := networkTapesRow.holds Tryd.pinned (OpenSpec.ofChange networkTapesWrong)

/- THE SECOND FORM. 'bulk': how many values and letters a reading holds, each counted each time it is reached (what is shared counts as often as it is met; a slice's spare places count too). A statement '..UptoSaid' is the law's where the arguments, and the package variables that the reading takes, are together of bulk at most 1048576: NARROWER than '..Said'. Prove '..Said' where nothing that the law and all that it calls make is longer than what came in: it says more and counts as full. Else prove '..UptoSaid'. A law counts once. -/
mutual
def uptoBulk {H : Type} : DataW H → Nat
  | .lit (.string bytes) => bytes.length + 1
  | .lit _ => 1
  | .nil => 1
  | .ptr d => uptoBulk d + 1
  | .slice elems spare => uptoBulkAll elems + uptoBulkAll spare + 1
  | .agg parts => uptoBulkAll parts + 1
  | .iface _ d => uptoBulk d + 1
  | .map entries => uptoBulkEntries entries + 1
  | .held _ => 1
def uptoBulkAll {H : Type} : List (DataW H) → Nat
  | [] => 0
  | d :: r => uptoBulk d + uptoBulkAll r
def uptoBulkEntries {H : Type} : List (Lit × DataW H) → Nat
  | [] => 0
  | x :: r => uptoBulkEntry x + uptoBulkEntries r
def uptoBulkEntry {H : Type} : Lit × DataW H → Nat
  | (.string bytes, d) => bytes.length + uptoBulk d + 1
  | (_, d) => uptoBulk d + 1
 end
def uptoSmall : (H : Type) → List (DataW H) → Bool := fun _ ds => decide (uptoBulkAll ds ≤ 1048576)
def OpenSpec.upto (s : _root_.Go.ChangeSpec) : _root_.Go.OpenSpec := { _root_.Go.OpenSpec.ofChange s with cond := some uptoSmall }

/-- 'privitylaw14.NetworkNew', WHERE WHAT IT READS IS OF BULK AT MOST 1048576: true; the input reads as it did. -/
def networkNewUptoRow : OpenClaim := { program := "ytjdgcblikhkioaadoor", sum := "8e6560c43ba22a5cf282919f1d7ebd707d0cc91a478eeba17d4c3682b7c620fe", func := "privity/privitylaw14.NetworkNew", spec := "networkNew", inPlace := ["math/bits.Add64"], unfollowed := true, recurses := true, named := ["privity/field.exps"], apart := false, laid := [("privity/field.exps", laid_privity_field_exps)], narrowed := true }
def NetworkNewUptoSaid : Prop := networkNewUptoRow.holds Tryd.pinned (OpenSpec.upto networkNewSpec)

/-- 'privitylaw14.NetworkHonestDelivery', WHERE WHAT IT READS IS OF BULK AT MOST 1048576: true; the input reads as it did. -/
def networkHonestDeliveryUptoRow : OpenClaim := { program := "ytjdgcblikhkioaadoor", sum := "8e6560c43ba22a5cf282919f1d7ebd707d0cc91a478eeba17d4c3682b7c620fe", func := "privity/privitylaw14.NetworkHonestDelivery", spec := "networkHonestDelivery", inPlace := ["math/bits.Add64"], unfollowed := true, recurses := true, named := ["privity/field.exps"], apart := false, laid := [("privity/field.exps", laid_privity_field_exps)], narrowed := true }
def NetworkHonestDeliveryUptoSaid : Prop := networkHonestDeliveryUptoRow.holds Tryd.pinned (OpenSpec.upto networkHonestDeliverySpec)

/-- 'privitylaw14.NetworkPointToPoint', WHERE WHAT IT READS IS OF BULK AT MOST 1048576: true; the input reads as it did. -/
def networkPointToPointUptoRow : OpenClaim := { program := "ytjdgcblikhkioaadoor", sum := "8e6560c43ba22a5cf282919f1d7ebd707d0cc91a478eeba17d4c3682b7c620fe", func := "privity/privitylaw14.NetworkPointToPoint", spec := "networkPointToPoint", inPlace := ["math/bits.Add64"], unfollowed := true, recurses := true, named := ["privity/field.exps"], apart := false, laid := [("privity/field.exps", laid_privity_field_exps)], narrowed := true }
def NetworkPointToPointUptoSaid : Prop := networkPointToPointUptoRow.holds Tryd.pinned (OpenSpec.upto networkPointToPointSpec)

/-- 'privitylaw14.NetworkViewOrder', WHERE WHAT IT READS IS OF BULK AT MOST 1048576: true; the input reads as it did. -/
def networkViewOrderUptoRow : OpenClaim := { program := "ytjdgcblikhkioaadoor", sum := "8e6560c43ba22a5cf282919f1d7ebd707d0cc91a478eeba17d4c3682b7c620fe", func := "privity/privitylaw14.NetworkViewOrder", spec := "networkViewOrder", inPlace := ["math/bits.Add64"], unfollowed := true, recurses := true, named := ["privity/field.exps"], apart := false, laid := [("privity/field.exps", laid_privity_field_exps)], narrowed := true }
def NetworkViewOrderUptoSaid : Prop := networkViewOrderUptoRow.holds Tryd.pinned (OpenSpec.upto networkViewOrderSpec)

/-- 'privitylaw14.NetworkResize', WHERE WHAT IT READS IS OF BULK AT MOST 1048576: true; the input reads as it did. -/
def networkResizeUptoRow : OpenClaim := { program := "ytjdgcblikhkioaadoor", sum := "8e6560c43ba22a5cf282919f1d7ebd707d0cc91a478eeba17d4c3682b7c620fe", func := "privity/privitylaw14.NetworkResize", spec := "networkResize", inPlace := ["math/bits.Add64"], unfollowed := true, recurses := true, named := ["privity/field.exps"], apart := false, laid := [("privity/field.exps", laid_privity_field_exps)], narrowed := true }
def NetworkResizeUptoSaid : Prop := networkResizeUptoRow.holds Tryd.pinned (OpenSpec.upto networkResizeSpec)

/-- 'privitylaw14.NetworkNoDeviations', WHERE WHAT IT READS IS OF BULK AT MOST 1048576: true; the input reads as it did. -/
def networkNoDeviationsUptoRow : OpenClaim := { program := "ytjdgcblikhkioaadoor", sum := "8e6560c43ba22a5cf282919f1d7ebd707d0cc91a478eeba17d4c3682b7c620fe", func := "privity/privitylaw14.NetworkNoDeviations", spec := "networkNoDeviations", inPlace := ["math/bits.Add64"], unfollowed := true, recurses := true, named := ["privity/field.exps"], apart := false, laid := [("privity/field.exps", laid_privity_field_exps)], narrowed := true }
def NetworkNoDeviationsUptoSaid : Prop := networkNoDeviationsUptoRow.holds Tryd.pinned (OpenSpec.upto networkNoDeviationsSpec)

/-- 'privitylaw14.NetworkHonestTrafficHidden', WHERE WHAT IT READS IS OF BULK AT MOST 1048576: true; the input reads as it did. -/
def networkHonestTrafficHiddenUptoRow : OpenClaim := { program := "ytjdgcblikhkioaadoor", sum := "8e6560c43ba22a5cf282919f1d7ebd707d0cc91a478eeba17d4c3682b7c620fe", func := "privity/privitylaw14.NetworkHonestTrafficHidden", spec := "networkHonestTrafficHidden", inPlace := ["math/bits.Add64"], unfollowed := true, recurses := true, named := ["privity/field.exps"], apart := false, laid := [("privity/field.exps", laid_privity_field_exps)], narrowed := true }
def NetworkHonestTrafficHiddenUptoSaid : Prop := networkHonestTrafficHiddenUptoRow.holds Tryd.pinned (OpenSpec.upto networkHonestTrafficHiddenSpec)

/-- 'privitylaw14.NetworkExecution', WHERE WHAT IT READS IS OF BULK AT MOST 1048576: true; the input reads as it did. -/
def networkExecutionUptoRow : OpenClaim := { program := "ytjdgcblikhkioaadoor", sum := "8e6560c43ba22a5cf282919f1d7ebd707d0cc91a478eeba17d4c3682b7c620fe", func := "privity/privitylaw14.NetworkExecution", spec := "networkExecution", inPlace := ["math/bits.Add64"], unfollowed := true, recurses := true, named := ["privity/field.exps"], apart := false, laid := [("privity/field.exps", laid_privity_field_exps)], narrowed := true }
def NetworkExecutionUptoSaid : Prop := networkExecutionUptoRow.holds Tryd.pinned (OpenSpec.upto networkExecutionSpec)

/-- 'privitylaw14.NetworkTapes', WHERE WHAT IT READS IS OF BULK AT MOST 1048576: true; the input reads as it did. -/
def networkTapesUptoRow : OpenClaim := { program := "ytjdgcblikhkioaadoor", sum := "8e6560c43ba22a5cf282919f1d7ebd707d0cc91a478eeba17d4c3682b7c620fe", func := "privity/privitylaw14.NetworkTapes", spec := "networkTapes", inPlace := ["math/bits.Add64"], unfollowed := true, recurses := true, named := ["privity/field.exps"], apart := false, laid := [("privity/field.exps", laid_privity_field_exps)], narrowed := true }
def NetworkTapesUptoSaid : Prop := networkTapesUptoRow.holds Tryd.pinned (OpenSpec.upto networkTapesSpec)

end Rows
end Go.Proofs.YtjdgcblikhkioaaDoor
