/- BitsAddCommutes: whatever the input, the law returns true (Add agrees with the specification and with integer addition, and is commutative), and the input reads as it did. No condition. -/
import Derived.Test.YteolodabmljaaaaAbs15
import Derived.Test.YteolodabmljaaaaRows
import Derived.ProofKit
set_option linter.unusedVariables false
namespace Go.Proofs.Yteolodabmljaaaa
open Go.ChangeShapes Go.WideShapes Go.ChangeAt Go.RowKit

theorem Try.own : ownKnob Try.prog.godebug = none := by kernel_rfl
theorem Try.laidOut : laidOutB Try.prog = true := by kernel_rfl

set_option maxRecDepth 100000 in
theorem bitsAddCommutes_lifted (os : Os) (started : os.Started) (H : Type) (enc : TypeId × Value → H) :
    ReturnsInHanded {} Try.checked os 5 .any (Rows.bitsAddCommutesSpec.pre6 enc Try.prog Try.f5 Rows.bitsAddCommutesRow.domain false) (Rows.bitsAddCommutesSpec.post enc Try.prog Try.f5 false true false false) := by
  refine returnsInHanded_of_change (C := Try.checked) Try.own started (by kernel_rfl) Try.func5
    (ChangeSpec.witness6 (enc := enc) (C := Try.checked) false ⟨#[], #[.slice none 0 0, .slice none 0 0], []⟩ 8 (by kernel_rfl) (by kernel_rfl) (by kernel_rfl) (by kernel_rfl)) ?_
  intro W base args ds gs before hval hW hcnd _
  refine Go.Abs.law_contract (P := Try.prog) (H := Go.Abs.H02) (m := 8) (tb := 4) Go.Abs.mixed02 Go.Abs.X02_sm Go.Abs.prog02 Go.Abs.CX02 (fun _ => rfl) Try.func5 rfl Try.laidOut (by kernel_rfl) rfl rfl Try.underlying4 ?_ ?_ W base args ds gs before hval hW
  · intro ds hds
    match ds, hds with
    | [d0, d1], _ => rfl
  · intro xs hxs
    rw [Try.params5] at hxs
    match xs, hxs with
    | [x0, x1], ⟨h0, h1, _⟩ =>
      obtain ⟨A0, c0, l0, _, w0, rfl⟩ := Go.Abs.arg_words Try.underlying24 Try.underlying22 (by kernel_rfl) h0
      obtain ⟨A1, c1, l1, _, w1, rfl⟩ := Go.Abs.arg_words Try.underlying24 Try.underlying22 (by kernel_rfl) h1
      exact ⟨_, [], 0, Go.Abs.law5 false false A0 A1 c0 c1 l0 l1 _ (Nat.le_refl _) 0⟩

theorem bitsAddCommutes_holds : Rows.BitsAddCommutesSaid :=
  OpenClaim.holds_of_wide 5 Try.f5 rfl rfl rfl rfl rfl rfl rfl ⟨rfl, rfl, rfl, rfl, rfl⟩ rfl rfl rfl rfl rfl (by kernel_rfl) Try.func5 (by kernel_rfl)
    (of_decide_eq_true (by kernel_rfl)) (by unfold Func.isWrapper; first | (rw [if_pos (by decide +kernel)]; kernel_rfl) | (rw [if_neg (by decide +kernel)]; exact ⟨rfl, rfl⟩))
    (fun os started H enc _ => bitsAddCommutes_lifted os started H enc)
end Go.Proofs.Yteolodabmljaaaa
