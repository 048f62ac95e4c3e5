/-
  DERIVED. GIVEN WITH THE SEED: THE CARDS: each row of YtbkhamjlfadfoaaDoorRows.lean that lists a variable, with what it lists TIED to the program's text (the seventh form; the later family's looks); each row that meets fmt, with fmt's text TOLD by the authors' own Lean function (tested against real Go, not proved from fmt's source: count such statements apart). THE CARD IS WHAT COUNTS. Prove the row's statement (the work); the ties are given (YtbkhamjlfadfoaaDoorTie.lean); close each card by the builder's one call (the guide's Derived/Test/ToyasCard.lean, 'card_holds'). Laid BY PROGRAM, IN A SANDBOX (cutbox-door.mjs). By AI agents, Wed Nov 11 2026. No macro, syntax, notation, axiom, sorry.
-/
import Derived.Test.YtbkhamjlfadfoaaDoorRows
import GoSem.ClaimSeven
namespace Go.Proofs.YtbkhamjlfadfoaaDoor
namespace Rows

/-- THE TIED CARD OF 'privitylaw16.PhasekingAgreement'. -/
def phasekingAgreementCard : Claim7 := { stood := { row := phasekingAgreementRow, standIns := [], harness := (true, "4e2103b41329c5fb86a9124936c6202b61c0f358102d1d443e1c4dd4fd95f6e1"), looks := false }, kinds := [], alts := [], laidByText := true, laidKinds := [.data], laidTests := true, laidLooks := .later }
def PhasekingAgreementCardSaid : Prop := Claim7.holds Tryd.pinned (.plain (OpenSpec.ofChange phasekingAgreementSpec)) phasekingAgreementCard

/-- THE TIED CARD OF 'privitylaw16.PhasekingValidity'. -/
def phasekingValidityCard : Claim7 := { stood := { row := phasekingValidityRow, standIns := [], harness := (true, "4e2103b41329c5fb86a9124936c6202b61c0f358102d1d443e1c4dd4fd95f6e1"), looks := false }, kinds := [], alts := [], laidByText := true, laidKinds := [.data], laidTests := true, laidLooks := .later }
def PhasekingValidityCardSaid : Prop := Claim7.holds Tryd.pinned (.plain (OpenSpec.ofChange phasekingValiditySpec)) phasekingValidityCard

/-- THE TIED CARD OF 'privitylaw16.PhasekingRounds'. -/
def phasekingRoundsCard : Claim7 := { stood := { row := phasekingRoundsRow, standIns := [], harness := (true, "4e2103b41329c5fb86a9124936c6202b61c0f358102d1d443e1c4dd4fd95f6e1"), looks := false }, kinds := [], alts := [], laidByText := true, laidKinds := [.data], laidTests := true, laidLooks := .later }
def PhasekingRoundsCardSaid : Prop := Claim7.holds Tryd.pinned (.plain (OpenSpec.ofChange phasekingRoundsSpec)) phasekingRoundsCard

/-- THE TIED CARD OF 'privitylaw16.PhasekingIdempotent'. -/
def phasekingIdempotentCard : Claim7 := { stood := { row := phasekingIdempotentRow, standIns := [], harness := (true, "4e2103b41329c5fb86a9124936c6202b61c0f358102d1d443e1c4dd4fd95f6e1"), looks := false }, kinds := [], alts := [], laidByText := true, laidKinds := [.data], laidTests := true, laidLooks := .later }
def PhasekingIdempotentCardSaid : Prop := Claim7.holds Tryd.pinned (.plain (OpenSpec.ofChange phasekingIdempotentSpec)) phasekingIdempotentCard

/-- THE TIED CARD OF 'privitylaw16.PhasekingNoDeviations'. -/
def phasekingNoDeviationsCard : Claim7 := { stood := { row := phasekingNoDeviationsRow, standIns := [], harness := (true, "4e2103b41329c5fb86a9124936c6202b61c0f358102d1d443e1c4dd4fd95f6e1"), looks := false }, kinds := [], alts := [], laidByText := true, laidKinds := [.data], laidTests := true, laidLooks := .later }
def PhasekingNoDeviationsCardSaid : Prop := Claim7.holds Tryd.pinned (.plain (OpenSpec.ofChange phasekingNoDeviationsSpec)) phasekingNoDeviationsCard

/-- THE TIED CARD OF 'privitylaw16.PhasekingIgnoredDeviations'. -/
def phasekingIgnoredDeviationsCard : Claim7 := { stood := { row := phasekingIgnoredDeviationsRow, standIns := [], harness := (true, "4e2103b41329c5fb86a9124936c6202b61c0f358102d1d443e1c4dd4fd95f6e1"), looks := false }, kinds := [], alts := [], laidByText := true, laidKinds := [.data], laidTests := true, laidLooks := .later }
def PhasekingIgnoredDeviationsCardSaid : Prop := Claim7.holds Tryd.pinned (.plain (OpenSpec.ofChange phasekingIgnoredDeviationsSpec)) phasekingIgnoredDeviationsCard

/-- THE TIED CARD OF 'privitylaw16.PhasekingCorruptInputs'. -/
def phasekingCorruptInputsCard : Claim7 := { stood := { row := phasekingCorruptInputsRow, standIns := [], harness := (true, "4e2103b41329c5fb86a9124936c6202b61c0f358102d1d443e1c4dd4fd95f6e1"), looks := false }, kinds := [], alts := [], laidByText := true, laidKinds := [.data], laidTests := true, laidLooks := .later }
def PhasekingCorruptInputsCardSaid : Prop := Claim7.holds Tryd.pinned (.plain (OpenSpec.ofChange phasekingCorruptInputsSpec)) phasekingCorruptInputsCard

/-- THE TIED CARD OF 'privitylaw16.PhasekingAgree'. -/
def phasekingAgreeCard : Claim7 := { stood := { row := phasekingAgreeRow, standIns := [], harness := (true, "4e2103b41329c5fb86a9124936c6202b61c0f358102d1d443e1c4dd4fd95f6e1"), looks := false }, kinds := [], alts := [], laidByText := true, laidKinds := [.data], laidTests := true, laidLooks := .later }
def PhasekingAgreeCardSaid : Prop := Claim7.holds Tryd.pinned (.plain (OpenSpec.ofChange phasekingAgreeSpec)) phasekingAgreeCard

/-- THE TIED CARD OF 'privitylaw17.BroadcastAgreementAndValidity'. -/
def broadcastAgreementAndValidityCard : Claim7 := { stood := { row := broadcastAgreementAndValidityRow, standIns := [], harness := (true, "4e2103b41329c5fb86a9124936c6202b61c0f358102d1d443e1c4dd4fd95f6e1"), looks := false }, kinds := [], alts := [], laidByText := true, laidKinds := [.data], laidTests := true, laidLooks := .later }
def BroadcastAgreementAndValidityCardSaid : Prop := Claim7.holds Tryd.pinned (.plain (OpenSpec.ofChange broadcastAgreementAndValiditySpec)) broadcastAgreementAndValidityCard

/-- THE TIED CARD OF 'privitylaw17.BroadcastRoundCount'. -/
def broadcastRoundCountCard : Claim7 := { stood := { row := broadcastRoundCountRow, standIns := [], harness := (true, "4e2103b41329c5fb86a9124936c6202b61c0f358102d1d443e1c4dd4fd95f6e1"), looks := false }, kinds := [], alts := [], laidByText := true, laidKinds := [.data], laidTests := true, laidLooks := .later }
def BroadcastRoundCountCardSaid : Prop := Claim7.holds Tryd.pinned (.plain (OpenSpec.ofChange broadcastRoundCountSpec)) broadcastRoundCountCard

/-- THE TIED CARD OF 'privitylaw17.BroadcastConsistentSenderIsAccepted'. -/
def broadcastConsistentSenderIsAcceptedCard : Claim7 := { stood := { row := broadcastConsistentSenderIsAcceptedRow, standIns := [], harness := (true, "4e2103b41329c5fb86a9124936c6202b61c0f358102d1d443e1c4dd4fd95f6e1"), looks := false }, kinds := [], alts := [], laidByText := true, laidKinds := [.data], laidTests := true, laidLooks := .later }
def BroadcastConsistentSenderIsAcceptedCardSaid : Prop := Claim7.holds Tryd.pinned (.plain (OpenSpec.ofChange broadcastConsistentSenderIsAcceptedSpec)) broadcastConsistentSenderIsAcceptedCard

/-- THE TIED CARD OF 'privitylaw17.BroadcastMatchesReference'. -/
def broadcastMatchesReferenceCard : Claim7 := { stood := { row := broadcastMatchesReferenceRow, standIns := [], harness := (true, "4e2103b41329c5fb86a9124936c6202b61c0f358102d1d443e1c4dd4fd95f6e1"), looks := false }, kinds := [], alts := [], laidByText := true, laidKinds := [.data], laidTests := true, laidLooks := .later }
def BroadcastMatchesReferenceCardSaid : Prop := Claim7.holds Tryd.pinned (.plain (OpenSpec.ofChange broadcastMatchesReferenceSpec)) broadcastMatchesReferenceCard

/-- THE TIED CARD OF 'privitylaw17.BroadcastEqualsIdealBroadcast'. -/
def broadcastEqualsIdealBroadcastCard : Claim7 := { stood := { row := broadcastEqualsIdealBroadcastRow, standIns := [], harness := (true, "4e2103b41329c5fb86a9124936c6202b61c0f358102d1d443e1c4dd4fd95f6e1"), looks := false }, kinds := [], alts := [], laidByText := true, laidKinds := [.data], laidTests := true, laidLooks := .later }
def BroadcastEqualsIdealBroadcastCardSaid : Prop := Claim7.holds Tryd.pinned (.plain (OpenSpec.ofChange broadcastEqualsIdealBroadcastSpec)) broadcastEqualsIdealBroadcastCard

/-- THE SECOND FORM's CARD OF 'privitylaw16.PhasekingAgreement'. -/
def phasekingAgreementUptoCard : Claim7 := { stood := { row := phasekingAgreementUptoRow, standIns := [], harness := (true, "4e2103b41329c5fb86a9124936c6202b61c0f358102d1d443e1c4dd4fd95f6e1"), looks := false }, kinds := [], alts := [], laidByText := true, laidKinds := [.data], laidTests := true, laidLooks := .later }
def PhasekingAgreementUptoCardSaid : Prop := Claim7.holds Tryd.pinned (.plain (OpenSpec.upto phasekingAgreementSpec)) phasekingAgreementUptoCard

/-- THE SECOND FORM's CARD OF 'privitylaw16.PhasekingValidity'. -/
def phasekingValidityUptoCard : Claim7 := { stood := { row := phasekingValidityUptoRow, standIns := [], harness := (true, "4e2103b41329c5fb86a9124936c6202b61c0f358102d1d443e1c4dd4fd95f6e1"), looks := false }, kinds := [], alts := [], laidByText := true, laidKinds := [.data], laidTests := true, laidLooks := .later }
def PhasekingValidityUptoCardSaid : Prop := Claim7.holds Tryd.pinned (.plain (OpenSpec.upto phasekingValiditySpec)) phasekingValidityUptoCard

/-- THE SECOND FORM's CARD OF 'privitylaw16.PhasekingRounds'. -/
def phasekingRoundsUptoCard : Claim7 := { stood := { row := phasekingRoundsUptoRow, standIns := [], harness := (true, "4e2103b41329c5fb86a9124936c6202b61c0f358102d1d443e1c4dd4fd95f6e1"), looks := false }, kinds := [], alts := [], laidByText := true, laidKinds := [.data], laidTests := true, laidLooks := .later }
def PhasekingRoundsUptoCardSaid : Prop := Claim7.holds Tryd.pinned (.plain (OpenSpec.upto phasekingRoundsSpec)) phasekingRoundsUptoCard

/-- THE SECOND FORM's CARD OF 'privitylaw16.PhasekingIdempotent'. -/
def phasekingIdempotentUptoCard : Claim7 := { stood := { row := phasekingIdempotentUptoRow, standIns := [], harness := (true, "4e2103b41329c5fb86a9124936c6202b61c0f358102d1d443e1c4dd4fd95f6e1"), looks := false }, kinds := [], alts := [], laidByText := true, laidKinds := [.data], laidTests := true, laidLooks := .later }
def PhasekingIdempotentUptoCardSaid : Prop := Claim7.holds Tryd.pinned (.plain (OpenSpec.upto phasekingIdempotentSpec)) phasekingIdempotentUptoCard

/-- THE SECOND FORM's CARD OF 'privitylaw16.PhasekingNoDeviations'. -/
def phasekingNoDeviationsUptoCard : Claim7 := { stood := { row := phasekingNoDeviationsUptoRow, standIns := [], harness := (true, "4e2103b41329c5fb86a9124936c6202b61c0f358102d1d443e1c4dd4fd95f6e1"), looks := false }, kinds := [], alts := [], laidByText := true, laidKinds := [.data], laidTests := true, laidLooks := .later }
def PhasekingNoDeviationsUptoCardSaid : Prop := Claim7.holds Tryd.pinned (.plain (OpenSpec.upto phasekingNoDeviationsSpec)) phasekingNoDeviationsUptoCard

/-- THE SECOND FORM's CARD OF 'privitylaw16.PhasekingIgnoredDeviations'. -/
def phasekingIgnoredDeviationsUptoCard : Claim7 := { stood := { row := phasekingIgnoredDeviationsUptoRow, standIns := [], harness := (true, "4e2103b41329c5fb86a9124936c6202b61c0f358102d1d443e1c4dd4fd95f6e1"), looks := false }, kinds := [], alts := [], laidByText := true, laidKinds := [.data], laidTests := true, laidLooks := .later }
def PhasekingIgnoredDeviationsUptoCardSaid : Prop := Claim7.holds Tryd.pinned (.plain (OpenSpec.upto phasekingIgnoredDeviationsSpec)) phasekingIgnoredDeviationsUptoCard

/-- THE SECOND FORM's CARD OF 'privitylaw16.PhasekingCorruptInputs'. -/
def phasekingCorruptInputsUptoCard : Claim7 := { stood := { row := phasekingCorruptInputsUptoRow, standIns := [], harness := (true, "4e2103b41329c5fb86a9124936c6202b61c0f358102d1d443e1c4dd4fd95f6e1"), looks := false }, kinds := [], alts := [], laidByText := true, laidKinds := [.data], laidTests := true, laidLooks := .later }
def PhasekingCorruptInputsUptoCardSaid : Prop := Claim7.holds Tryd.pinned (.plain (OpenSpec.upto phasekingCorruptInputsSpec)) phasekingCorruptInputsUptoCard

/-- THE SECOND FORM's CARD OF 'privitylaw16.PhasekingAgree'. -/
def phasekingAgreeUptoCard : Claim7 := { stood := { row := phasekingAgreeUptoRow, standIns := [], harness := (true, "4e2103b41329c5fb86a9124936c6202b61c0f358102d1d443e1c4dd4fd95f6e1"), looks := false }, kinds := [], alts := [], laidByText := true, laidKinds := [.data], laidTests := true, laidLooks := .later }
def PhasekingAgreeUptoCardSaid : Prop := Claim7.holds Tryd.pinned (.plain (OpenSpec.upto phasekingAgreeSpec)) phasekingAgreeUptoCard

/-- THE SECOND FORM's CARD OF 'privitylaw17.BroadcastAgreementAndValidity'. -/
def broadcastAgreementAndValidityUptoCard : Claim7 := { stood := { row := broadcastAgreementAndValidityUptoRow, standIns := [], harness := (true, "4e2103b41329c5fb86a9124936c6202b61c0f358102d1d443e1c4dd4fd95f6e1"), looks := false }, kinds := [], alts := [], laidByText := true, laidKinds := [.data], laidTests := true, laidLooks := .later }
def BroadcastAgreementAndValidityUptoCardSaid : Prop := Claim7.holds Tryd.pinned (.plain (OpenSpec.upto broadcastAgreementAndValiditySpec)) broadcastAgreementAndValidityUptoCard

/-- THE SECOND FORM's CARD OF 'privitylaw17.BroadcastRoundCount'. -/
def broadcastRoundCountUptoCard : Claim7 := { stood := { row := broadcastRoundCountUptoRow, standIns := [], harness := (true, "4e2103b41329c5fb86a9124936c6202b61c0f358102d1d443e1c4dd4fd95f6e1"), looks := false }, kinds := [], alts := [], laidByText := true, laidKinds := [.data], laidTests := true, laidLooks := .later }
def BroadcastRoundCountUptoCardSaid : Prop := Claim7.holds Tryd.pinned (.plain (OpenSpec.upto broadcastRoundCountSpec)) broadcastRoundCountUptoCard

/-- THE SECOND FORM's CARD OF 'privitylaw17.BroadcastConsistentSenderIsAccepted'. -/
def broadcastConsistentSenderIsAcceptedUptoCard : Claim7 := { stood := { row := broadcastConsistentSenderIsAcceptedUptoRow, standIns := [], harness := (true, "4e2103b41329c5fb86a9124936c6202b61c0f358102d1d443e1c4dd4fd95f6e1"), looks := false }, kinds := [], alts := [], laidByText := true, laidKinds := [.data], laidTests := true, laidLooks := .later }
def BroadcastConsistentSenderIsAcceptedUptoCardSaid : Prop := Claim7.holds Tryd.pinned (.plain (OpenSpec.upto broadcastConsistentSenderIsAcceptedSpec)) broadcastConsistentSenderIsAcceptedUptoCard

/-- THE SECOND FORM's CARD OF 'privitylaw17.BroadcastMatchesReference'. -/
def broadcastMatchesReferenceUptoCard : Claim7 := { stood := { row := broadcastMatchesReferenceUptoRow, standIns := [], harness := (true, "4e2103b41329c5fb86a9124936c6202b61c0f358102d1d443e1c4dd4fd95f6e1"), looks := false }, kinds := [], alts := [], laidByText := true, laidKinds := [.data], laidTests := true, laidLooks := .later }
def BroadcastMatchesReferenceUptoCardSaid : Prop := Claim7.holds Tryd.pinned (.plain (OpenSpec.upto broadcastMatchesReferenceSpec)) broadcastMatchesReferenceUptoCard

/-- THE SECOND FORM's CARD OF 'privitylaw17.BroadcastEqualsIdealBroadcast'. -/
def broadcastEqualsIdealBroadcastUptoCard : Claim7 := { stood := { row := broadcastEqualsIdealBroadcastUptoRow, standIns := [], harness := (true, "4e2103b41329c5fb86a9124936c6202b61c0f358102d1d443e1c4dd4fd95f6e1"), looks := false }, kinds := [], alts := [], laidByText := true, laidKinds := [.data], laidTests := true, laidLooks := .later }
def BroadcastEqualsIdealBroadcastUptoCardSaid : Prop := Claim7.holds Tryd.pinned (.plain (OpenSpec.upto broadcastEqualsIdealBroadcastSpec)) broadcastEqualsIdealBroadcastUptoCard
end Rows
end Go.Proofs.YtbkhamjlfadfoaaDoor
