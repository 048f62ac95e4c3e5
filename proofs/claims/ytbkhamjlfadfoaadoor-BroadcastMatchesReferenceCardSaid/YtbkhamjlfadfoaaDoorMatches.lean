/- BroadcastMatchesReference: whatever the input, the law returns true (in every scenario, the accepted messages and the views of all parties are those of the reference), and the input reads as it did. No condition. -/
import Derived.Test.YtbkhamjlfadfoaaDoorAbs309
import Derived.Test.YtbkhamjlfadfoaaDoorAbs325
import Derived.Test.YtbkhamjlfadfoaaDoorAbs336
import Derived.Test.YtbkhamjlfadfoaaDoorRows
import Derived.Test.YtbkhamjlfadfoaaDoorCards
import Derived.Test.YtbkhamjlfadfoaaDoorTie
import Derived.ProofKit
import Derived.SevenTiedAt
set_option linter.unusedVariables false
namespace Go.Proofs.YtbkhamjlfadfoaaDoor
open Go.ChangeShapes Go.WideShapes Go.ChangeAt Go.WideElems Go.RowKit

set_option maxRecDepth 100000 in
theorem broadcastMatchesReference_lifted (os : Os) (started : os.Started) (H : Type) (enc : TypeId × Value → H) :
    ReturnsInHanded {} Tryd.checked os 14 .any (fun w args => (Rows.broadcastMatchesReferenceSpec.pre enc Tryd.prog Tryd.f14 [] false w args ∧ laidMetH Tryd.prog Go.Abs.laid14 w) ∧ sizedMet enc Tryd.prog Tryd.f14 (OpenSpec.ofChange Rows.broadcastMatchesReferenceSpec) false w args)
      (Rows.broadcastMatchesReferenceSpec.post enc Tryd.prog Tryd.f14 false true false false) := by
  refine returnsInHanded_of_change_and (C := Tryd.checked) (X := fun w _ => laidMetH Tryd.prog Go.Abs.laid14 w) (fun _ _ _ hh h => h.of_heap hh) Go.Abs.own14 started (by kernel_rfl) Tryd.func14
    (ChangeSpec.witness_shaped (enc := enc) (C := Tryd.checked) (os := os) (X := fun w _ => laidMetH Tryd.prog Go.Abs.laid14 w) false (World.doorLaid Tryd.prog 400 os) #[.agg #[.int .u64 0, .int .i64 0, .int .i64 0, .slice none 0 0, .slice none 0 0, .slice none 0 0, .slice none 0 0, .slice none 0 0]] 8 rfl (World.shaped_of_RefB (by kernel_rfl) (by kernel_rfl)) (by kernel_rfl) (by kernel_rfl) (by kernel_rfl) (Go.Abs.door_met os _)) ?_
  intro W base args ds gs before hval hW _ _ hL _
  refine Go.Abs.law_contractGT (P := Tryd.prog) (H := Go.Abs.H14) (m := 12) (tb := 4) (g := 0) (l := Go.Abs.exps14) Go.Abs.mixed14 Go.Abs.X14_sm Go.Abs.prog14 Go.Abs.CX14 ?_ Tryd.func14 rfl Go.Abs.laidOut14 (by kernel_rfl) rfl rfl Tryd.underlying4 ?_ ?_ W (Go.Abs.of_laid hL) base args ds gs before hval hW
  · intro g' cs h
    by_cases hg : g' = 0
    · subst hg; exact ⟨rfl, (Option.some.inj h).symm⟩
    · simp [Go.Abs.H14, hg] at h
  · intro ds hds
    match ds, hds with
    | [d0], _ => rfl
  · intro xs hxs
    rw [Tryd.params14] at hxs
    obtain ⟨x0, rfl, h0⟩ := Go.Abs.args1T hxs
    obtain ⟨z0, w0, rfl⟩ := Go.Abs.arg_playT h0
    obtain ⟨N, h⟩ := Go.Abs.law14 z0 w0
    exact ⟨N, [], 0, h N (Nat.le_refl _) 0⟩

theorem broadcastMatchesReference_holds : Rows.BroadcastMatchesReferenceSaid :=
  OpenClaim.holds_of_wide 14 Tryd.f14 rfl rfl rfl rfl rfl rfl rfl ⟨rfl, rfl, rfl, rfl, rfl⟩ rfl rfl rfl rfl rfl (by kernel_rfl) Tryd.func14 (by kernel_rfl)
    (of_decide_eq_true (by kernel_rfl)) (by unfold Func.isWrapper; first | (rw [if_pos (by decide +kernel)]; kernel_rfl) | (rw [if_neg (by decide +kernel)]; exact ⟨rfl, rfl⟩))
    (fun os started H enc _ => broadcastMatchesReference_lifted os started H enc)
theorem broadcastMatchesReferenceCard_holds : Rows.BroadcastMatchesReferenceCardSaid :=
  Claim7.holds_tied_plain_at .later [] [.data] true (true, "4e2103b41329c5fb86a9124936c6202b61c0f358102d1d443e1c4dd4fd95f6e1") false
    broadcastMatchesReference_holds (fun _ h => by cases h) (by kernel_rfl) (fun _ h => by cases h) broadcastMatchesReference_row_tie rfl ⟨rfl, rfl⟩ (by kernel_rfl) rfl
    (fun f fn hf hfn => by
      obtain rfl : f = 14 := Option.some.inj ((show Tryd.prog.funcNamed "privity/privitylaw17.BroadcastMatchesReference" = some 14 by kernel_rfl).symm.trans hf) |>.symm
      obtain rfl : fn = Tryd.f14 := (Option.some.inj (Tryd.func14.symm.trans hfn)).symm
      exact ⟨by kernel_rfl, fun j t ht => by
        rw [Tryd.params14] at ht
        have hm : t ∈ [58] := by simpa using Array.mem_of_getElem? ht
        have hall : ([58].all fun u => !Tryd.prog.wantsStandIn u) = true := by kernel_rfl
        exact (show Tryd.prog.wantsStandIn t = false by simpa using List.all_eq_true.1 hall t hm)⟩)
    (by kernel_rfl)
end Go.Proofs.YtbkhamjlfadfoaaDoor
