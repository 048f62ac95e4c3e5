/- Joined: AbsPNVD. -/
import Derived.Test.YtbkhamjlfadfoaaDoorAbs315
set_option linter.all false
set_option maxHeartbeats 16000000
noncomputable section
namespace Go.Abs
open Go Go.Proofs
def DevS (n : Int) (x : Dev) : Prop := 0 ≤ x.round ∧ 0 ≤ x.at_ ∧ 0 ≤ x.src ∧ 1 ≤ x.from_ ∧ x.from_ ≤ n ∧ 0 ≤ x.to ∧ x.to ≤ n ∧ 1 ≤ x.kind ∧ x.kind ≤ 4 ∧ 0 ≤ x.of_ ∧ x.of_ ≤ n ∧ (x.kind = 3 → 1 ≤ x.of_)
instance (n : Int) (x : Dev) : Decidable (DevS n x) := by unfold DevS; infer_instance
theorem DevS.P {n : Int} {x : Dev} (h : DevS n x) : DevP n x := by
 obtain ⟨h1, h2, h3, h4, h5, h6, h7, h8, h9, h10, h11, h12⟩ := h
 exact ⟨h1, h2, h3, h4, h5, h6, h7, h8, h9, h10, h11, h12⟩
set_option maxRecDepth 100000 in
theorem dev56 (p : Nat) (n t : Int) (x : Dev) : AnsN 1 Tryd.prog H14 66 [parV p n t, devV x] (.bool (decide (DevS n x))) := by
 refine AnsN.of (fn := Tryd.f66) (t := 4) (by rfl) Tryd.func66 rfl rfl (by rfl) (by rfl) fun k hk nx => ?_
 by_cases c1 : 0 ≤ x.round
 case neg => (simp [entryS, parV, devV, DevS, c1]; rintro a b (⟨rfl, _⟩ | ⟨rfl, _⟩) <;> omega)
 by_cases c2 : 0 ≤ x.at_
 case neg => (simp [entryS, parV, devV, DevS, c1, c2]; rintro a b (⟨rfl, _⟩ | ⟨rfl, _⟩) <;> omega)
 by_cases c3 : 0 ≤ x.src
 case neg => (simp [entryS, parV, devV, DevS, c1, c2, c3]; rintro a b (⟨rfl, _⟩ | ⟨rfl, _⟩) <;> omega)
 by_cases c4 : 1 ≤ x.from_
 case neg => (simp [entryS, parV, devV, DevS, c1, c2, c3, c4]; rintro a b (⟨rfl, _⟩ | ⟨rfl, _⟩) <;> omega)
 by_cases c5 : x.from_ ≤ n
 case neg => (simp [entryS, parV, devV, DevS, c1, c2, c3, c4, c5]; rintro a b (⟨rfl, _⟩ | ⟨rfl, _⟩) <;> omega)
 by_cases c6 : 0 ≤ x.to
 case neg => (simp [entryS, parV, devV, DevS, c1, c2, c3, c4, c5, c6]; rintro a b (⟨rfl, _⟩ | ⟨rfl, _⟩) <;> omega)
 by_cases c7 : x.to ≤ n
 case neg => (simp [entryS, parV, devV, DevS, c1, c2, c3, c4, c5, c6, c7]; rintro a b (⟨rfl, _⟩ | ⟨rfl, _⟩) <;> omega)
 by_cases c8 : 1 ≤ x.kind
 case neg => (simp [entryS, parV, devV, DevS, c1, c2, c3, c4, c5, c6, c7, c8]; rintro a b (⟨rfl, _⟩ | ⟨rfl, _⟩) <;> omega)
 by_cases c9 : x.kind ≤ 4
 case neg => (simp [entryS, parV, devV, DevS, c1, c2, c3, c4, c5, c6, c7, c8, c9]; rintro a b (⟨rfl, _⟩ | ⟨rfl, _⟩) <;> omega)
 by_cases c10 : 0 ≤ x.of_
 case neg => (simp [entryS, parV, devV, DevS, c1, c2, c3, c4, c5, c6, c7, c8, c9, c10]; rintro a b (⟨rfl, _⟩ | ⟨rfl, _⟩) <;> omega)
 by_cases c11 : x.of_ ≤ n
 case neg => (simp [entryS, parV, devV, DevS, c1, c2, c3, c4, c5, c6, c7, c8, c9, c10, c11]; rintro a b (⟨rfl, _⟩ | ⟨rfl, _⟩) <;> omega)
 by_cases c12 : x.kind = 3
 ·by_cases c13 : 1 ≤ x.of_
  ·(simp [entryS, parV, devV, DevS, c1, c2, c3, c4, c5, c6, c7, c8, c9, c10, c11, c12, c13]; rintro a b (⟨rfl, _⟩ | ⟨rfl, _⟩) <;> omega)
  ·(simp [entryS, parV, devV, DevS, c1, c2, c3, c4, c5, c6, c7, c8, c9, c10, c11, c12, c13]; rintro a b (⟨rfl, _⟩ | ⟨rfl, _⟩) <;> omega)
 ·have c12b : (x.kind != 3) = true := by simpa [bne] using c12
  (simp [entryS, parV, devV, DevS, c1, c2, c3, c4, c5, c6, c7, c8, c9, c10, c11, c12, c12b]; rintro a b (⟨rfl, _⟩ | ⟨rfl, _⟩) <;> omega)
end Go.Abs
end
