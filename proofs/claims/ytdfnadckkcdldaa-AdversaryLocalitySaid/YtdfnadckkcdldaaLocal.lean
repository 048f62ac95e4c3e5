/- AdversaryLocality: whatever the input, the law returns true, and the input reads as it did. No condition. -/
import Derived.Test.YtdfnadckkcdldaaAbs16
import Derived.Test.YtdfnadckkcdldaaRows
import Derived.ProofKit
set_option linter.unusedVariables false
namespace Go.Proofs.Ytdfnadckkcdldaa
open Go.ChangeShapes Go.WideShapes Go.ChangeAt Go.RowKit

theorem Try.own : ownKnob Try.prog.godebug = none := by kernel_rfl
theorem Try.laidOut : laidOutB Try.prog = true := by kernel_rfl

set_option maxRecDepth 100000 in
theorem adversaryLocality_lifted (os : Os) (started : os.Started) (H : Type) (enc : TypeId × Value → H) :
    ReturnsInHanded {} Try.checked os 7 .any (Rows.adversaryLocalitySpec.pre6 enc Try.prog Try.f7 Rows.adversaryLocalityRow.domain false) (Rows.adversaryLocalitySpec.post enc Try.prog Try.f7 false true false false) := by
  refine returnsInHanded_of_change (C := Try.checked) Try.own started (by kernel_rfl) Try.func7
    (ChangeSpec.witness6 (enc := enc) (C := Try.checked) false ⟨#[], #[.agg #[.int .u64 0, .int .i64 0, .int .i64 0, .slice none 0 0, .slice none 0 0, .slice none 0 0, .int .i64 0, .slice none 0 0, .slice none 0 0], .slice none 0 0], []⟩ 8 (by kernel_rfl) (by kernel_rfl) (by kernel_rfl) (by kernel_rfl)) ?_
  intro W base args ds gs before hval hW hcnd _
  refine Go.Abs.law_contract (P := Try.prog) (H := Go.Abs.H13) (m := 8) (tb := 4) Go.Abs.mixed13 Go.Abs.X13_sm Go.Abs.prog13 Go.Abs.CX13 (fun _ => rfl) Try.func7 rfl Try.laidOut (by kernel_rfl) rfl rfl Try.underlying4 ?_ ?_ W base args ds gs before hval hW
  · intro ds hds
    match ds, hds with
    | [d, e], _ => rfl
  · intro xs hxs
    rw [Try.params7] at hxs
    match xs, hxs with
    | [x, y], ⟨hx, hy, _⟩ =>
      obtain ⟨z, rfl, hz, hk⟩ := Go.Abs.sh_ask hx
      obtain ⟨A, cap, l, h1, h2, rfl⟩ := Go.Abs.sh_arg30 hy
      obtain ⟨N, h⟩ := Go.Abs.law7 z hz hk false A cap l h1 h2
      exact ⟨N, [], 0, h N (Nat.le_refl _) 0⟩

theorem adversaryLocality_holds : Rows.AdversaryLocalitySaid :=
  OpenClaim.holds_of_wide 7 Try.f7 rfl rfl rfl rfl rfl rfl rfl ⟨rfl, rfl, rfl, rfl, rfl⟩ rfl rfl rfl rfl rfl (by kernel_rfl) Try.func7 (by kernel_rfl)
    (of_decide_eq_true (by kernel_rfl)) (by unfold Func.isWrapper; first | (rw [if_pos (by decide +kernel)]; kernel_rfl) | (rw [if_neg (by decide +kernel)]; exact ⟨rfl, rfl⟩))
    (fun os started H enc _ => adversaryLocality_lifted os started H enc)
end Go.Proofs.Ytdfnadckkcdldaa
