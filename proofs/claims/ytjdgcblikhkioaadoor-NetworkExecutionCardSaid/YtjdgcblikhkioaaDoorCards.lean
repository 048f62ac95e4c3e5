/-
  DERIVED. GIVEN WITH THE SEED: THE CARDS: each row of YtjdgcblikhkioaaDoorRows.lean that lists a variable, with what it lists TIED to the program's text (the seventh form; the later family's looks); each row that meets fmt, with fmt's text TOLD by the authors' own Lean function (tested against real Go, not proved from fmt's source: count such statements apart). THE CARD IS WHAT COUNTS. Prove the row's statement (the work); the ties are given (YtjdgcblikhkioaaDoorTie.lean); close each card by the builder's one call (the guide's Derived/Test/ToyasCard.lean, 'card_holds'). Laid BY PROGRAM, IN A SANDBOX (cutbox-door.mjs). By AI agents, Wed Nov 11 2026. No macro, syntax, notation, axiom, sorry.
-/
import Derived.Test.YtjdgcblikhkioaaDoorRows
import GoSem.ClaimSeven
namespace Go.Proofs.YtjdgcblikhkioaaDoor
namespace Rows

/-- THE TIED CARD OF 'privitylaw14.NetworkNew'. -/
def networkNewCard : Claim7 := { stood := { row := networkNewRow, standIns := [], harness := (true, "634138e135fc9ee9a90d0e8e59a6c14ca42e3940d305c7436c505126f377f326"), looks := false }, kinds := [], alts := [], laidByText := true, laidKinds := [.data], laidTests := true, laidLooks := .later }
def NetworkNewCardSaid : Prop := Claim7.holds Tryd.pinned (.plain (OpenSpec.ofChange networkNewSpec)) networkNewCard

/-- THE TIED CARD OF 'privitylaw14.NetworkHonestDelivery'. -/
def networkHonestDeliveryCard : Claim7 := { stood := { row := networkHonestDeliveryRow, standIns := [], harness := (true, "634138e135fc9ee9a90d0e8e59a6c14ca42e3940d305c7436c505126f377f326"), looks := false }, kinds := [], alts := [], laidByText := true, laidKinds := [.data], laidTests := true, laidLooks := .later }
def NetworkHonestDeliveryCardSaid : Prop := Claim7.holds Tryd.pinned (.plain (OpenSpec.ofChange networkHonestDeliverySpec)) networkHonestDeliveryCard

/-- THE TIED CARD OF 'privitylaw14.NetworkPointToPoint'. -/
def networkPointToPointCard : Claim7 := { stood := { row := networkPointToPointRow, standIns := [], harness := (true, "634138e135fc9ee9a90d0e8e59a6c14ca42e3940d305c7436c505126f377f326"), looks := false }, kinds := [], alts := [], laidByText := true, laidKinds := [.data], laidTests := true, laidLooks := .later }
def NetworkPointToPointCardSaid : Prop := Claim7.holds Tryd.pinned (.plain (OpenSpec.ofChange networkPointToPointSpec)) networkPointToPointCard

/-- THE TIED CARD OF 'privitylaw14.NetworkViewOrder'. -/
def networkViewOrderCard : Claim7 := { stood := { row := networkViewOrderRow, standIns := [], harness := (true, "634138e135fc9ee9a90d0e8e59a6c14ca42e3940d305c7436c505126f377f326"), looks := false }, kinds := [], alts := [], laidByText := true, laidKinds := [.data], laidTests := true, laidLooks := .later }
def NetworkViewOrderCardSaid : Prop := Claim7.holds Tryd.pinned (.plain (OpenSpec.ofChange networkViewOrderSpec)) networkViewOrderCard

/-- THE TIED CARD OF 'privitylaw14.NetworkResize'. -/
def networkResizeCard : Claim7 := { stood := { row := networkResizeRow, standIns := [], harness := (true, "634138e135fc9ee9a90d0e8e59a6c14ca42e3940d305c7436c505126f377f326"), looks := false }, kinds := [], alts := [], laidByText := true, laidKinds := [.data], laidTests := true, laidLooks := .later }
def NetworkResizeCardSaid : Prop := Claim7.holds Tryd.pinned (.plain (OpenSpec.ofChange networkResizeSpec)) networkResizeCard

/-- THE TIED CARD OF 'privitylaw14.NetworkNoDeviations'. -/
def networkNoDeviationsCard : Claim7 := { stood := { row := networkNoDeviationsRow, standIns := [], harness := (true, "634138e135fc9ee9a90d0e8e59a6c14ca42e3940d305c7436c505126f377f326"), looks := false }, kinds := [], alts := [], laidByText := true, laidKinds := [.data], laidTests := true, laidLooks := .later }
def NetworkNoDeviationsCardSaid : Prop := Claim7.holds Tryd.pinned (.plain (OpenSpec.ofChange networkNoDeviationsSpec)) networkNoDeviationsCard

/-- THE TIED CARD OF 'privitylaw14.NetworkHonestTrafficHidden'. -/
def networkHonestTrafficHiddenCard : Claim7 := { stood := { row := networkHonestTrafficHiddenRow, standIns := [], harness := (true, "634138e135fc9ee9a90d0e8e59a6c14ca42e3940d305c7436c505126f377f326"), looks := false }, kinds := [], alts := [], laidByText := true, laidKinds := [.data], laidTests := true, laidLooks := .later }
def NetworkHonestTrafficHiddenCardSaid : Prop := Claim7.holds Tryd.pinned (.plain (OpenSpec.ofChange networkHonestTrafficHiddenSpec)) networkHonestTrafficHiddenCard

/-- THE TIED CARD OF 'privitylaw14.NetworkExecution'. -/
def networkExecutionCard : Claim7 := { stood := { row := networkExecutionRow, standIns := [], harness := (true, "634138e135fc9ee9a90d0e8e59a6c14ca42e3940d305c7436c505126f377f326"), looks := false }, kinds := [], alts := [], laidByText := true, laidKinds := [.data], laidTests := true, laidLooks := .later }
def NetworkExecutionCardSaid : Prop := Claim7.holds Tryd.pinned (.plain (OpenSpec.ofChange networkExecutionSpec)) networkExecutionCard

/-- THE TIED CARD OF 'privitylaw14.NetworkTapes'. -/
def networkTapesCard : Claim7 := { stood := { row := networkTapesRow, standIns := [], harness := (true, "634138e135fc9ee9a90d0e8e59a6c14ca42e3940d305c7436c505126f377f326"), looks := false }, kinds := [], alts := [], laidByText := true, laidKinds := [.data], laidTests := true, laidLooks := .later }
def NetworkTapesCardSaid : Prop := Claim7.holds Tryd.pinned (.plain (OpenSpec.ofChange networkTapesSpec)) networkTapesCard

/-- THE SECOND FORM's CARD OF 'privitylaw14.NetworkNew'. -/
def networkNewUptoCard : Claim7 := { stood := { row := networkNewUptoRow, standIns := [], harness := (true, "634138e135fc9ee9a90d0e8e59a6c14ca42e3940d305c7436c505126f377f326"), looks := false }, kinds := [], alts := [], laidByText := true, laidKinds := [.data], laidTests := true, laidLooks := .later }
def NetworkNewUptoCardSaid : Prop := Claim7.holds Tryd.pinned (.plain (OpenSpec.upto networkNewSpec)) networkNewUptoCard

/-- THE SECOND FORM's CARD OF 'privitylaw14.NetworkHonestDelivery'. -/
def networkHonestDeliveryUptoCard : Claim7 := { stood := { row := networkHonestDeliveryUptoRow, standIns := [], harness := (true, "634138e135fc9ee9a90d0e8e59a6c14ca42e3940d305c7436c505126f377f326"), looks := false }, kinds := [], alts := [], laidByText := true, laidKinds := [.data], laidTests := true, laidLooks := .later }
def NetworkHonestDeliveryUptoCardSaid : Prop := Claim7.holds Tryd.pinned (.plain (OpenSpec.upto networkHonestDeliverySpec)) networkHonestDeliveryUptoCard

/-- THE SECOND FORM's CARD OF 'privitylaw14.NetworkPointToPoint'. -/
def networkPointToPointUptoCard : Claim7 := { stood := { row := networkPointToPointUptoRow, standIns := [], harness := (true, "634138e135fc9ee9a90d0e8e59a6c14ca42e3940d305c7436c505126f377f326"), looks := false }, kinds := [], alts := [], laidByText := true, laidKinds := [.data], laidTests := true, laidLooks := .later }
def NetworkPointToPointUptoCardSaid : Prop := Claim7.holds Tryd.pinned (.plain (OpenSpec.upto networkPointToPointSpec)) networkPointToPointUptoCard

/-- THE SECOND FORM's CARD OF 'privitylaw14.NetworkViewOrder'. -/
def networkViewOrderUptoCard : Claim7 := { stood := { row := networkViewOrderUptoRow, standIns := [], harness := (true, "634138e135fc9ee9a90d0e8e59a6c14ca42e3940d305c7436c505126f377f326"), looks := false }, kinds := [], alts := [], laidByText := true, laidKinds := [.data], laidTests := true, laidLooks := .later }
def NetworkViewOrderUptoCardSaid : Prop := Claim7.holds Tryd.pinned (.plain (OpenSpec.upto networkViewOrderSpec)) networkViewOrderUptoCard

/-- THE SECOND FORM's CARD OF 'privitylaw14.NetworkResize'. -/
def networkResizeUptoCard : Claim7 := { stood := { row := networkResizeUptoRow, standIns := [], harness := (true, "634138e135fc9ee9a90d0e8e59a6c14ca42e3940d305c7436c505126f377f326"), looks := false }, kinds := [], alts := [], laidByText := true, laidKinds := [.data], laidTests := true, laidLooks := .later }
def NetworkResizeUptoCardSaid : Prop := Claim7.holds Tryd.pinned (.plain (OpenSpec.upto networkResizeSpec)) networkResizeUptoCard

/-- THE SECOND FORM's CARD OF 'privitylaw14.NetworkNoDeviations'. -/
def networkNoDeviationsUptoCard : Claim7 := { stood := { row := networkNoDeviationsUptoRow, standIns := [], harness := (true, "634138e135fc9ee9a90d0e8e59a6c14ca42e3940d305c7436c505126f377f326"), looks := false }, kinds := [], alts := [], laidByText := true, laidKinds := [.data], laidTests := true, laidLooks := .later }
def NetworkNoDeviationsUptoCardSaid : Prop := Claim7.holds Tryd.pinned (.plain (OpenSpec.upto networkNoDeviationsSpec)) networkNoDeviationsUptoCard

/-- THE SECOND FORM's CARD OF 'privitylaw14.NetworkHonestTrafficHidden'. -/
def networkHonestTrafficHiddenUptoCard : Claim7 := { stood := { row := networkHonestTrafficHiddenUptoRow, standIns := [], harness := (true, "634138e135fc9ee9a90d0e8e59a6c14ca42e3940d305c7436c505126f377f326"), looks := false }, kinds := [], alts := [], laidByText := true, laidKinds := [.data], laidTests := true, laidLooks := .later }
def NetworkHonestTrafficHiddenUptoCardSaid : Prop := Claim7.holds Tryd.pinned (.plain (OpenSpec.upto networkHonestTrafficHiddenSpec)) networkHonestTrafficHiddenUptoCard

/-- THE SECOND FORM's CARD OF 'privitylaw14.NetworkExecution'. -/
def networkExecutionUptoCard : Claim7 := { stood := { row := networkExecutionUptoRow, standIns := [], harness := (true, "634138e135fc9ee9a90d0e8e59a6c14ca42e3940d305c7436c505126f377f326"), looks := false }, kinds := [], alts := [], laidByText := true, laidKinds := [.data], laidTests := true, laidLooks := .later }
def NetworkExecutionUptoCardSaid : Prop := Claim7.holds Tryd.pinned (.plain (OpenSpec.upto networkExecutionSpec)) networkExecutionUptoCard

/-- THE SECOND FORM's CARD OF 'privitylaw14.NetworkTapes'. -/
def networkTapesUptoCard : Claim7 := { stood := { row := networkTapesUptoRow, standIns := [], harness := (true, "634138e135fc9ee9a90d0e8e59a6c14ca42e3940d305c7436c505126f377f326"), looks := false }, kinds := [], alts := [], laidByText := true, laidKinds := [.data], laidTests := true, laidLooks := .later }
def NetworkTapesUptoCardSaid : Prop := Claim7.holds Tryd.pinned (.plain (OpenSpec.upto networkTapesSpec)) networkTapesUptoCard
end Rows
end Go.Proofs.YtjdgcblikhkioaaDoor
