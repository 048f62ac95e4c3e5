/- Joined: AbsPNVIb. -/
import Derived.Test.YtbkhamjlfadfoaaDoorAbs316
set_option linter.all false
set_option maxHeartbeats 16000000
noncomputable section
namespace Go.Abs
open Go Go.Proofs
set_option maxRecDepth 100000 in
theorem dev49b (p : Nat) (n t : Int) (x : Dev) (k3 : ¬ x.kind = 3) : AnsN 1 Tryd.prog H14 74 [parV p n t, devV x] (.bool (decide (DevS n x))) := by
 refine AnsN.of (fn := Tryd.f74) (t := 4) (by rfl) Tryd.func74 rfl rfl (by rfl) (by rfl) fun k hk nx => ?_
 by_cases c1 : 0 ≤ x.round
 case neg => (simp [entryS, parV, devV, DevS, c1, k3]; rintro a b (⟨rfl, _⟩ | ⟨rfl, _⟩) <;> omega)
 by_cases c2 : 0 ≤ x.at_
 case neg => (simp [entryS, parV, devV, DevS, c1, c2, k3]; rintro a b (⟨rfl, _⟩ | ⟨rfl, _⟩) <;> omega)
 by_cases c3 : 0 ≤ x.src
 case neg => (simp [entryS, parV, devV, DevS, c1, c2, c3, k3]; rintro a b (⟨rfl, _⟩ | ⟨rfl, _⟩) <;> omega)
 by_cases c4 : 1 ≤ x.from_
 case neg => (simp [entryS, parV, devV, DevS, c1, c2, c3, c4, k3]; rintro a b (⟨rfl, _⟩ | ⟨rfl, _⟩) <;> omega)
 by_cases c5 : x.from_ ≤ n
 case neg => (simp [entryS, parV, devV, DevS, c1, c2, c3, c4, c5, k3]; rintro a b (⟨rfl, _⟩ | ⟨rfl, _⟩) <;> omega)
 by_cases c6 : 0 ≤ x.to
 case neg => (simp [entryS, parV, devV, DevS, c1, c2, c3, c4, c5, c6, k3]; rintro a b (⟨rfl, _⟩ | ⟨rfl, _⟩) <;> omega)
 by_cases c7 : x.to ≤ n
 case neg => (simp [entryS, parV, devV, DevS, c1, c2, c3, c4, c5, c6, c7, k3]; rintro a b (⟨rfl, _⟩ | ⟨rfl, _⟩) <;> omega)
 by_cases c8 : 1 ≤ x.kind
 case neg => (simp [entryS, parV, devV, DevS, c1, c2, c3, c4, c5, c6, c7, c8, k3]; rintro a b (⟨rfl, _⟩ | ⟨rfl, _⟩) <;> omega)
 by_cases c9 : x.kind ≤ 4
 case neg => (simp [entryS, parV, devV, DevS, c1, c2, c3, c4, c5, c6, c7, c8, c9, k3]; rintro a b (⟨rfl, _⟩ | ⟨rfl, _⟩) <;> omega)
 by_cases c10 : 0 ≤ x.of_
 case neg => (simp [entryS, parV, devV, DevS, c1, c2, c3, c4, c5, c6, c7, c8, c9, c10, k3]; rintro a b (⟨rfl, _⟩ | ⟨rfl, _⟩) <;> omega)
 by_cases c11 : x.of_ ≤ n
 case neg => (simp [entryS, parV, devV, DevS, c1, c2, c3, c4, c5, c6, c7, c8, c9, c10, c11, k3]; rintro a b (⟨rfl, _⟩ | ⟨rfl, _⟩) <;> omega)
 (simp [entryS, parV, devV, DevS, c1, c2, c3, c4, c5, c6, c7, c8, c9, c10, c11, k3]; rintro a b (⟨rfl, _⟩ | ⟨rfl, _⟩) <;> omega)
end Go.Abs
end
