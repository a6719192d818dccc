/-
  DERIVED. GIVEN WITH THE SEED: THE CARDS: each row of YtlbgokakghchiaaDoorRows.lean that lists a variable, with what it lists TIED to the program's text (the seventh form; the later family's looks); each row that meets fmt, with fmt's text TOLD by the authors' own Lean function (tested against real Go, not proved from fmt's source: count such statements apart). THE CARD IS WHAT COUNTS. Prove the row's statement (the work); the ties are given (YtlbgokakghchiaaDoorTie.lean); close each card by the builder's one call (the guide's Derived/Test/ToyasCard.lean, 'card_holds'). Laid BY PROGRAM, IN A SANDBOX (cutbox-door.mjs). By AI agents, Wed Nov 11 2026. No macro, syntax, notation, axiom, sorry.
-/
import Derived.Test.YtlbgokakghchiaaDoorRows
import GoSem.ClaimSeven
namespace Go.Proofs.YtlbgokakghchiaaDoor
namespace Rows

/-- THE TIED CARD OF 'sealchainlaw16.LeadBinds'. -/
def leadBindsCard : Claim7 := { stood := { row := leadBindsRow, standIns := [], harness := (true, "473ddc9b05d90b7286816db57755008d5cfd518eaf782ee17a28d2c0f6663092"), looks := true }, kinds := [], alts := [], laidByText := true, laidKinds := [.data, .data], laidTests := true, laidLooks := .later }
def LeadBindsCardSaid : Prop := Claim7.holds Tryd.pinned (.plain (OpenSpec.ofChange leadBindsSpec)) leadBindsCard

/-- THE TIED CARD OF 'sealchainlaw16.LeadBallots'. -/
def leadBallotsCard : Claim7 := { stood := { row := leadBallotsRow, standIns := [], harness := (true, "473ddc9b05d90b7286816db57755008d5cfd518eaf782ee17a28d2c0f6663092"), looks := true }, kinds := [], alts := [], laidByText := true, laidKinds := [.data, .data], laidTests := true, laidLooks := .later }
def LeadBallotsCardSaid : Prop := Claim7.holds Tryd.pinned (.plain (OpenSpec.ofChange leadBallotsSpec)) leadBallotsCard

/-- THE TIED CARD OF 'sealchainlaw16.LeadCounts'. -/
def leadCountsCard : Claim7 := { stood := { row := leadCountsRow, standIns := [], harness := (true, "473ddc9b05d90b7286816db57755008d5cfd518eaf782ee17a28d2c0f6663092"), looks := true }, kinds := [], alts := [], laidByText := true, laidKinds := [.data, .data], laidTests := true, laidLooks := .later }
def LeadCountsCardSaid : Prop := Claim7.holds Tryd.pinned (.plain (OpenSpec.ofChange leadCountsSpec)) leadCountsCard

/-- THE TIED CARD OF 'sealchainlaw16.LeadPlays'. -/
def leadPlaysCard : Claim7 := { stood := { row := leadPlaysRow, standIns := [], harness := (true, "473ddc9b05d90b7286816db57755008d5cfd518eaf782ee17a28d2c0f6663092"), looks := true }, kinds := [], alts := [], laidByText := true, laidKinds := [.data, .data], laidTests := true, laidLooks := .later }
def LeadPlaysCardSaid : Prop := Claim7.holds Tryd.pinned (.plain (OpenSpec.ofChange leadPlaysSpec)) leadPlaysCard

/-- THE TIED CARD OF 'sealchainlaw16.LeadAgrees'. -/
def leadAgreesCard : Claim7 := { stood := { row := leadAgreesRow, standIns := [], harness := (true, "473ddc9b05d90b7286816db57755008d5cfd518eaf782ee17a28d2c0f6663092"), looks := true }, kinds := [], alts := [], laidByText := true, laidKinds := [.data, .data], laidTests := true, laidLooks := .later }
def LeadAgreesCardSaid : Prop := Claim7.holds Tryd.pinned (.plain (OpenSpec.ofChange leadAgreesSpec)) leadAgreesCard

/-- THE TIED CARD OF 'sealchainlaw16.LeadNames'. -/
def leadNamesCard : Claim7 := { stood := { row := leadNamesRow, standIns := [], harness := (true, "473ddc9b05d90b7286816db57755008d5cfd518eaf782ee17a28d2c0f6663092"), looks := true }, kinds := [], alts := [], laidByText := true, laidKinds := [.data, .data], laidTests := true, laidLooks := .later }
def LeadNamesCardSaid : Prop := Claim7.holds Tryd.pinned (.plain (OpenSpec.ofChange leadNamesSpec)) leadNamesCard

/-- THE TIED CARD OF 'sealchainlaw20.SessAgain'. -/
def sessAgainCard : Claim7 := { stood := { row := sessAgainRow, standIns := [], harness := (true, "473ddc9b05d90b7286816db57755008d5cfd518eaf782ee17a28d2c0f6663092"), looks := true }, kinds := [], alts := [], laidByText := true, laidKinds := [.widerDeep], laidTests := true, laidLooks := .later }
def SessAgainCardSaid : Prop := Claim7.holds Tryd.pinned (.plain (OpenSpec.ofChange sessAgainSpec)) sessAgainCard

/-- THE TIED CARD OF 'sealchainlaw20.SessOnce'. -/
def sessOnceCard : Claim7 := { stood := { row := sessOnceRow, standIns := [], harness := (true, "473ddc9b05d90b7286816db57755008d5cfd518eaf782ee17a28d2c0f6663092"), looks := true }, kinds := [], alts := [], laidByText := true, laidKinds := [.widerDeep], laidTests := true, laidLooks := .later }
def SessOnceCardSaid : Prop := Claim7.holds Tryd.pinned (.plain (OpenSpec.ofChange sessOnceSpec)) sessOnceCard

/-- THE TIED CARD OF 'sealchainlaw20.SessConfs'. -/
def sessConfsCard : Claim7 := { stood := { row := sessConfsRow, standIns := [], harness := (true, "473ddc9b05d90b7286816db57755008d5cfd518eaf782ee17a28d2c0f6663092"), looks := true }, kinds := [], alts := [], laidByText := true, laidKinds := [.widerDeep], laidTests := true, laidLooks := .later }
def SessConfsCardSaid : Prop := Claim7.holds Tryd.pinned (.plain (OpenSpec.ofChange sessConfsSpec)) sessConfsCard

/-- THE TIED CARD OF 'sealchainlaw20.SessPlays'. -/
def sessPlaysCard : Claim7 := { stood := { row := sessPlaysRow, standIns := [], harness := (true, "473ddc9b05d90b7286816db57755008d5cfd518eaf782ee17a28d2c0f6663092"), looks := true }, kinds := [], alts := [], laidByText := true, laidKinds := [.widerDeep], laidTests := true, laidLooks := .later }
def SessPlaysCardSaid : Prop := Claim7.holds Tryd.pinned (.plain (OpenSpec.ofChange sessPlaysSpec)) sessPlaysCard

/-- THE TIED CARD OF 'sealchainlaw20.SessStray'. -/
def sessStrayCard : Claim7 := { stood := { row := sessStrayRow, standIns := [], harness := (true, "473ddc9b05d90b7286816db57755008d5cfd518eaf782ee17a28d2c0f6663092"), looks := true }, kinds := [], alts := [], laidByText := true, laidKinds := [.widerDeep], laidTests := true, laidLooks := .later }
def SessStrayCardSaid : Prop := Claim7.holds Tryd.pinned (.plain (OpenSpec.ofChange sessStraySpec)) sessStrayCard

/-- THE SECOND FORM's CARD OF 'sealchainlaw16.LeadBinds'. -/
def leadBindsUptoCard : Claim7 := { stood := { row := leadBindsUptoRow, standIns := [], harness := (true, "473ddc9b05d90b7286816db57755008d5cfd518eaf782ee17a28d2c0f6663092"), looks := true }, kinds := [], alts := [], laidByText := true, laidKinds := [.data, .data], laidTests := true, laidLooks := .later }
def LeadBindsUptoCardSaid : Prop := Claim7.holds Tryd.pinned (.plain (OpenSpec.upto leadBindsSpec)) leadBindsUptoCard

/-- THE SECOND FORM's CARD OF 'sealchainlaw16.LeadBallots'. -/
def leadBallotsUptoCard : Claim7 := { stood := { row := leadBallotsUptoRow, standIns := [], harness := (true, "473ddc9b05d90b7286816db57755008d5cfd518eaf782ee17a28d2c0f6663092"), looks := true }, kinds := [], alts := [], laidByText := true, laidKinds := [.data, .data], laidTests := true, laidLooks := .later }
def LeadBallotsUptoCardSaid : Prop := Claim7.holds Tryd.pinned (.plain (OpenSpec.upto leadBallotsSpec)) leadBallotsUptoCard

/-- THE SECOND FORM's CARD OF 'sealchainlaw16.LeadCounts'. -/
def leadCountsUptoCard : Claim7 := { stood := { row := leadCountsUptoRow, standIns := [], harness := (true, "473ddc9b05d90b7286816db57755008d5cfd518eaf782ee17a28d2c0f6663092"), looks := true }, kinds := [], alts := [], laidByText := true, laidKinds := [.data, .data], laidTests := true, laidLooks := .later }
def LeadCountsUptoCardSaid : Prop := Claim7.holds Tryd.pinned (.plain (OpenSpec.upto leadCountsSpec)) leadCountsUptoCard

/-- THE SECOND FORM's CARD OF 'sealchainlaw16.LeadPlays'. -/
def leadPlaysUptoCard : Claim7 := { stood := { row := leadPlaysUptoRow, standIns := [], harness := (true, "473ddc9b05d90b7286816db57755008d5cfd518eaf782ee17a28d2c0f6663092"), looks := true }, kinds := [], alts := [], laidByText := true, laidKinds := [.data, .data], laidTests := true, laidLooks := .later }
def LeadPlaysUptoCardSaid : Prop := Claim7.holds Tryd.pinned (.plain (OpenSpec.upto leadPlaysSpec)) leadPlaysUptoCard

/-- THE SECOND FORM's CARD OF 'sealchainlaw16.LeadAgrees'. -/
def leadAgreesUptoCard : Claim7 := { stood := { row := leadAgreesUptoRow, standIns := [], harness := (true, "473ddc9b05d90b7286816db57755008d5cfd518eaf782ee17a28d2c0f6663092"), looks := true }, kinds := [], alts := [], laidByText := true, laidKinds := [.data, .data], laidTests := true, laidLooks := .later }
def LeadAgreesUptoCardSaid : Prop := Claim7.holds Tryd.pinned (.plain (OpenSpec.upto leadAgreesSpec)) leadAgreesUptoCard

/-- THE SECOND FORM's CARD OF 'sealchainlaw16.LeadNames'. -/
def leadNamesUptoCard : Claim7 := { stood := { row := leadNamesUptoRow, standIns := [], harness := (true, "473ddc9b05d90b7286816db57755008d5cfd518eaf782ee17a28d2c0f6663092"), looks := true }, kinds := [], alts := [], laidByText := true, laidKinds := [.data, .data], laidTests := true, laidLooks := .later }
def LeadNamesUptoCardSaid : Prop := Claim7.holds Tryd.pinned (.plain (OpenSpec.upto leadNamesSpec)) leadNamesUptoCard

/-- THE SECOND FORM's CARD OF 'sealchainlaw20.SessAgain'. -/
def sessAgainUptoCard : Claim7 := { stood := { row := sessAgainUptoRow, standIns := [], harness := (true, "473ddc9b05d90b7286816db57755008d5cfd518eaf782ee17a28d2c0f6663092"), looks := true }, kinds := [], alts := [], laidByText := true, laidKinds := [.widerDeep], laidTests := true, laidLooks := .later }
def SessAgainUptoCardSaid : Prop := Claim7.holds Tryd.pinned (.plain (OpenSpec.upto sessAgainSpec)) sessAgainUptoCard

/-- THE SECOND FORM's CARD OF 'sealchainlaw20.SessOnce'. -/
def sessOnceUptoCard : Claim7 := { stood := { row := sessOnceUptoRow, standIns := [], harness := (true, "473ddc9b05d90b7286816db57755008d5cfd518eaf782ee17a28d2c0f6663092"), looks := true }, kinds := [], alts := [], laidByText := true, laidKinds := [.widerDeep], laidTests := true, laidLooks := .later }
def SessOnceUptoCardSaid : Prop := Claim7.holds Tryd.pinned (.plain (OpenSpec.upto sessOnceSpec)) sessOnceUptoCard

/-- THE SECOND FORM's CARD OF 'sealchainlaw20.SessConfs'. -/
def sessConfsUptoCard : Claim7 := { stood := { row := sessConfsUptoRow, standIns := [], harness := (true, "473ddc9b05d90b7286816db57755008d5cfd518eaf782ee17a28d2c0f6663092"), looks := true }, kinds := [], alts := [], laidByText := true, laidKinds := [.widerDeep], laidTests := true, laidLooks := .later }
def SessConfsUptoCardSaid : Prop := Claim7.holds Tryd.pinned (.plain (OpenSpec.upto sessConfsSpec)) sessConfsUptoCard

/-- THE SECOND FORM's CARD OF 'sealchainlaw20.SessPlays'. -/
def sessPlaysUptoCard : Claim7 := { stood := { row := sessPlaysUptoRow, standIns := [], harness := (true, "473ddc9b05d90b7286816db57755008d5cfd518eaf782ee17a28d2c0f6663092"), looks := true }, kinds := [], alts := [], laidByText := true, laidKinds := [.widerDeep], laidTests := true, laidLooks := .later }
def SessPlaysUptoCardSaid : Prop := Claim7.holds Tryd.pinned (.plain (OpenSpec.upto sessPlaysSpec)) sessPlaysUptoCard

/-- THE SECOND FORM's CARD OF 'sealchainlaw20.SessStray'. -/
def sessStrayUptoCard : Claim7 := { stood := { row := sessStrayUptoRow, standIns := [], harness := (true, "473ddc9b05d90b7286816db57755008d5cfd518eaf782ee17a28d2c0f6663092"), looks := true }, kinds := [], alts := [], laidByText := true, laidKinds := [.widerDeep], laidTests := true, laidLooks := .later }
def SessStrayUptoCardSaid : Prop := Claim7.holds Tryd.pinned (.plain (OpenSpec.upto sessStraySpec)) sessStrayUptoCard
end Rows
end Go.Proofs.YtlbgokakghchiaaDoor
