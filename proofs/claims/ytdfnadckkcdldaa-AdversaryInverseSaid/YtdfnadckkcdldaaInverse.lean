/- AdversaryInverse: whatever the input, the law returns true, and the input reads as it did. No condition. -/
import Derived.Test.YtdfnadckkcdldaaAbs17
import Derived.Test.YtdfnadckkcdldaaRows
import Derived.ProofKit
set_option linter.unusedVariables false
namespace Go.Proofs.Ytdfnadckkcdldaa
open Go.ChangeShapes Go.WideShapes Go.ChangeAt Go.RowKit

theorem Try.own : ownKnob Try.prog.godebug = none := by kernel_rfl
theorem Try.laidOut : laidOutB Try.prog = true := by kernel_rfl

set_option maxRecDepth 100000 in
theorem adversaryInverse_lifted (os : Os) (started : os.Started) (H : Type) (enc : TypeId × Value → H) :
    ReturnsInHanded {} Try.checked os 8 .any (Rows.adversaryInverseSpec.pre6 enc Try.prog Try.f8 Rows.adversaryInverseRow.domain false) (Rows.adversaryInverseSpec.post enc Try.prog Try.f8 false true false false) := by
  refine returnsInHanded_of_change (C := Try.checked) Try.own started (by kernel_rfl) Try.func8
    (ChangeSpec.witness6 (enc := enc) (C := Try.checked) false ⟨#[], #[.agg #[.int .u64 0, .int .i64 0, .int .i64 0, .slice none 0 0, .slice none 0 0, .slice none 0 0, .int .i64 0, .slice none 0 0, .slice none 0 0], .int .u8 0, .int .u8 0], []⟩ 8 (by kernel_rfl) (by kernel_rfl) (by kernel_rfl) (by kernel_rfl)) ?_
  intro W base args ds gs before hval hW hcnd _
  refine Go.Abs.law_contract (P := Try.prog) (H := Go.Abs.H13) (m := 8) (tb := 4) Go.Abs.mixed13 Go.Abs.X13_sm Go.Abs.prog13 Go.Abs.CX13 (fun _ => rfl) Try.func8 rfl Try.laidOut (by kernel_rfl) rfl rfl Try.underlying4 ?_ ?_ W base args ds gs before hval hW
  · intro ds hds
    match ds, hds with
    | [d, e, g], _ => rfl
  · intro xs hxs
    rw [Try.params8] at hxs
    match xs, hxs with
    | [x, y, u], ⟨hx, hy, hu, _⟩ =>
      obtain ⟨z, rfl, hz, hk⟩ := Go.Abs.sh_ask hx
      obtain ⟨v, hv, rfl⟩ := Go.Abs.sh_u8 hy
      obtain ⟨q, hq, rfl⟩ := Go.Abs.sh_u8 hu
      obtain ⟨N, h⟩ := Go.Abs.law8 z hz hk v q hv hq
      exact ⟨N, [], 0, h N (Nat.le_refl _) 0⟩

theorem adversaryInverse_holds : Rows.AdversaryInverseSaid :=
  OpenClaim.holds_of_wide 8 Try.f8 rfl rfl rfl rfl rfl rfl rfl ⟨rfl, rfl, rfl, rfl, rfl⟩ rfl rfl rfl rfl rfl (by kernel_rfl) Try.func8 (by kernel_rfl)
    (of_decide_eq_true (by kernel_rfl)) (by unfold Func.isWrapper; first | (rw [if_pos (by decide +kernel)]; kernel_rfl) | (rw [if_neg (by decide +kernel)]; exact ⟨rfl, rfl⟩))
    (fun os started H enc _ => adversaryInverse_lifted os started H enc)
end Go.Proofs.Ytdfnadckkcdldaa
