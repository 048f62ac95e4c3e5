/- NetworkExecution: whatever the input, the law returns true (every round of any scenario delivers the specified messages, and every party has the specified view; for up to 5 rounds, 8 deviations and 8 words), and the input reads as it did. No condition. -/
import Derived.Test.YtjdgcblikhkioaaDoorAbs23
import Derived.Test.YtjdgcblikhkioaaDoorAbs29
import Derived.Test.YtjdgcblikhkioaaDoorRows
import Derived.Test.YtjdgcblikhkioaaDoorCards
import Derived.Test.YtjdgcblikhkioaaDoorTie
import Derived.ProofKit
import Derived.SevenTiedAt
set_option linter.unusedVariables false
namespace Go.Proofs.YtjdgcblikhkioaaDoor
open Go.ChangeShapes Go.WideShapes Go.ChangeAt Go.WideElems Go.RowKit

set_option maxRecDepth 100000 in
theorem networkExecution_lifted (os : Os) (started : os.Started) (H : Type) (enc : TypeId × Value → H) :
    ReturnsInHanded {} Tryd.checked os 10 .any (fun w args => (Rows.networkExecutionSpec.pre enc Tryd.prog Tryd.f10 [] false w args ∧ laidMetH Tryd.prog Go.Abs.laid14 w) ∧ sizedMet enc Tryd.prog Tryd.f10 (OpenSpec.ofChange Rows.networkExecutionSpec) false w args)
      (Rows.networkExecutionSpec.post enc Tryd.prog Tryd.f10 false true false false) := by
  refine returnsInHanded_of_change_and (C := Tryd.checked) (X := fun w _ => laidMetH Tryd.prog Go.Abs.laid14 w) (fun _ _ _ hh h => h.of_heap hh) Go.Abs.own14 started (by kernel_rfl) Tryd.func10
    (ChangeSpec.witness_shaped (enc := enc) (C := Tryd.checked) (os := os) (X := fun w _ => laidMetH Tryd.prog Go.Abs.laid14 w) false (World.doorLaid Tryd.prog 400 os) #[.agg #[.int .u64 0, .int .i64 0, .int .i64 0, .slice none 0 0, .slice none 0 0, .slice none 0 0, .slice none 0 0]] 8 rfl (World.shaped_of_RefB (by kernel_rfl) (by kernel_rfl)) (by kernel_rfl) (by kernel_rfl) (by kernel_rfl) (Go.Abs.door_met os _)) ?_
  intro W base args ds gs before hval hW _ _ hL _
  refine Go.Abs.law_contractG (P := Tryd.prog) (H := Go.Abs.H14) (m := 12) (tb := 4) (g := 0) (l := Go.Abs.exps14) Go.Abs.mixed14 Go.Abs.X14_sm Go.Abs.prog14 Go.Abs.CX14 ?_ Tryd.func10 rfl Go.Abs.laidOut14 (by kernel_rfl) rfl rfl Tryd.underlying4 ?_ ?_ W (Go.Abs.of_laid hL) base args ds gs before hval hW
  · intro g' cs h
    by_cases hg : g' = 0
    · subst hg; exact ⟨rfl, (Option.some.inj h).symm⟩
    · simp [Go.Abs.H14, hg] at h
  · intro ds hds
    match ds, hds with
    | [d0], _ => rfl
  · intro xs hxs
    rw [Tryd.params10] at hxs
    obtain ⟨x0, rfl, h0⟩ := Go.Abs.args1 hxs
    obtain ⟨p0, w0, rfl⟩ := Go.Abs.arg_exe h0
    obtain ⟨N, h⟩ := Go.Abs.law10 p0 w0
    exact ⟨N, [], 0, h N (Nat.le_refl _) 0⟩

theorem networkExecution_holds : Rows.NetworkExecutionSaid :=
  OpenClaim.holds_of_wide 10 Tryd.f10 rfl rfl rfl rfl rfl rfl rfl ⟨rfl, rfl, rfl, rfl, rfl⟩ rfl rfl rfl rfl rfl (by kernel_rfl) Tryd.func10 (by kernel_rfl)
    (of_decide_eq_true (by kernel_rfl)) (by unfold Func.isWrapper; first | (rw [if_pos (by decide +kernel)]; kernel_rfl) | (rw [if_neg (by decide +kernel)]; exact ⟨rfl, rfl⟩))
    (fun os started H enc _ => networkExecution_lifted os started H enc)
theorem networkExecutionCard_holds : Rows.NetworkExecutionCardSaid :=
  Claim7.holds_tied_plain_at .later [] [.data] true (true, "634138e135fc9ee9a90d0e8e59a6c14ca42e3940d305c7436c505126f377f326") false
    networkExecution_holds (fun _ h => by cases h) (by kernel_rfl) (fun _ h => by cases h) networkExecution_row_tie rfl ⟨rfl, rfl⟩ (by kernel_rfl) rfl
    (fun f fn hf hfn => by
      obtain rfl : f = 10 := Option.some.inj ((show Tryd.prog.funcNamed "privity/privitylaw14.NetworkExecution" = some 10 by kernel_rfl).symm.trans hf) |>.symm
      obtain rfl : fn = Tryd.f10 := (Option.some.inj (Tryd.func10.symm.trans hfn)).symm
      exact ⟨by kernel_rfl, fun j t ht => by
        rw [Tryd.params10] at ht
        have hm : t ∈ [42] := by simpa using Array.mem_of_getElem? ht
        have hall : ([42].all fun u => !Tryd.prog.wantsStandIn u) = true := by kernel_rfl
        exact (show Tryd.prog.wantsStandIn t = false by simpa using List.all_eq_true.1 hall t hm)⟩)
    (by kernel_rfl)
end Go.Proofs.YtjdgcblikhkioaaDoor
