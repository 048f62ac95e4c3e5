/- BitsFromUintRoundTrip: whatever the input, the law returns true (Width and FromUint agree with the specification, and ToUint inverts FromUint), and the input reads as it did. No condition. -/
import Derived.Test.YteolodabmljaaaaAbs15
import Derived.Test.YteolodabmljaaaaRows
import Derived.ProofKit
set_option linter.unusedVariables false
namespace Go.Proofs.Yteolodabmljaaaa
open Go.ChangeShapes Go.WideShapes Go.ChangeAt Go.RowKit

theorem Try.own : ownKnob Try.prog.godebug = none := by kernel_rfl
theorem Try.laidOut : laidOutB Try.prog = true := by kernel_rfl

set_option maxRecDepth 100000 in
theorem bitsFromUintRoundTrip_lifted (os : Os) (started : os.Started) (H : Type) (enc : TypeId × Value → H) :
    ReturnsInHanded {} Try.checked os 3 .any (Rows.bitsFromUintRoundTripSpec.pre6 enc Try.prog Try.f3 Rows.bitsFromUintRoundTripRow.domain false) (Rows.bitsFromUintRoundTripSpec.post enc Try.prog Try.f3 false true false false) := by
  refine returnsInHanded_of_change (C := Try.checked) Try.own started (by kernel_rfl) Try.func3
    (ChangeSpec.witness6 (enc := enc) (C := Try.checked) false ⟨#[], #[.int .u64 0, .int .i64 0], []⟩ 8 (by kernel_rfl) (by kernel_rfl) (by kernel_rfl) (by kernel_rfl)) ?_
  intro W base args ds gs before hval hW hcnd _
  refine Go.Abs.law_contract (P := Try.prog) (H := Go.Abs.H02) (m := 8) (tb := 4) Go.Abs.mixed02 Go.Abs.X02_sm Go.Abs.prog02 Go.Abs.CX02 (fun _ => rfl) Try.func3 rfl Try.laidOut (by kernel_rfl) rfl rfl Try.underlying4 ?_ ?_ W base args ds gs before hval hW
  · intro ds hds
    match ds, hds with
    | [d0, d1], _ => rfl
  · intro xs hxs
    rw [Try.params3] at hxs
    obtain ⟨x0, x1, rfl, h0, h1⟩ := Go.Abs.args2 hxs
    obtain ⟨n0, w0, rfl⟩ := Go.Abs.arg_u64 Try.underlying22 h0
    obtain ⟨n1, w1, rfl⟩ := Go.Abs.arg_i64 Try.underlying3 h1
    have h := Go.Abs.law3 n0 n1 w0
    exact ⟨2201, [], 0, h 2201 (Nat.le_refl _) 0⟩

theorem bitsFromUintRoundTrip_holds : Rows.BitsFromUintRoundTripSaid :=
  OpenClaim.holds_of_wide 3 Try.f3 rfl rfl rfl rfl rfl rfl rfl ⟨rfl, rfl, rfl, rfl, rfl⟩ rfl rfl rfl rfl rfl (by kernel_rfl) Try.func3 (by kernel_rfl)
    (of_decide_eq_true (by kernel_rfl)) (by unfold Func.isWrapper; first | (rw [if_pos (by decide +kernel)]; kernel_rfl) | (rw [if_neg (by decide +kernel)]; exact ⟨rfl, rfl⟩))
    (fun os started H enc _ => bitsFromUintRoundTrip_lifted os started H enc)
end Go.Proofs.Yteolodabmljaaaa
