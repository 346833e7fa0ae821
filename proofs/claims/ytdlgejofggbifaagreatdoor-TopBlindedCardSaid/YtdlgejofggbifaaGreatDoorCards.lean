/-
  DERIVED. GIVEN WITH THE SEED: THE CARDS: each row of YtdlgejofggbifaaGreatDoorRows.lean that lists a variable, with what it lists TIED to the program's text (the seventh form; the later family's looks); each row that meets fmt, with fmt's text TOLD by the authors' own Lean function (tested against real Go, not proved from fmt's source: count such statements apart). THE CARD IS WHAT COUNTS. Prove the row's statement (the work); the ties are given (YtdlgejofggbifaaGreatDoorTie.lean); close each card by the builder's one call (the guide's Derived/Test/ToyasCard.lean, 'card_holds'). Laid BY PROGRAM, IN A SANDBOX (cutbox-door.mjs). By AI agents, Wed Nov 11 2026. No macro, syntax, notation, axiom, sorry.
-/
import Derived.Test.YtdlgejofggbifaaGreatDoorRows
import GoSem.ClaimSeven
namespace Go.Proofs.YtdlgejofggbifaaGreatDoor
namespace Rows

/-- THE TIED CARD OF 'observatorytop.TopBlinded'. -/
def topBlindedCard : Claim7 := { stood := { row := topBlindedRow, standIns := [], harness := (true, "c42d7a77e796d3aa2c4148ef01025760f5969a9351a3881caefe4e25f79d08a3"), looks := true }, kinds := [], alts := [], laidByText := true, laidKinds := [.data, .data, .data, .data, .sentinel, .sentinel, .pinned], laidTests := true, laidLooks := .later }
def TopBlindedCardSaid : Prop := Claim7.holds Tryz.pinned (.plain (OpenSpec.ofChange topBlindedSpec)) topBlindedCard

/-- THE TIED CARD OF 'observatorylaw52.BlindingMatchesReference'. -/
def blindingMatchesReferenceCard : Claim7 := { stood := { row := blindingMatchesReferenceRow, standIns := [], harness := (true, "c42d7a77e796d3aa2c4148ef01025760f5969a9351a3881caefe4e25f79d08a3"), looks := true }, kinds := [], alts := [], laidByText := true, laidKinds := [.data, .data, .data, .data, .sentinel, .sentinel, .pinned], laidTests := true, laidLooks := .later }
def BlindingMatchesReferenceCardSaid : Prop := Claim7.holds Tryz.pinned (.plain (OpenSpec.ofChange blindingMatchesReferenceSpec)) blindingMatchesReferenceCard

/-- THE TIED CARD OF 'observatorylaw52.BlindingBack'. -/
def blindingBackCard : Claim7 := { stood := { row := blindingBackRow, standIns := [], harness := (true, "c42d7a77e796d3aa2c4148ef01025760f5969a9351a3881caefe4e25f79d08a3"), looks := true }, kinds := [], alts := [], laidByText := true, laidKinds := [.data, .data, .data, .data, .sentinel, .sentinel, .pinned], laidTests := true, laidLooks := .later }
def BlindingBackCardSaid : Prop := Claim7.holds Tryz.pinned (.plain (OpenSpec.ofChange blindingBackSpec)) blindingBackCard

/-- THE TIED CARD OF 'observatorylaw52.BlindingQuorum'. -/
def blindingQuorumCard : Claim7 := { stood := { row := blindingQuorumRow, standIns := [], harness := (true, "c42d7a77e796d3aa2c4148ef01025760f5969a9351a3881caefe4e25f79d08a3"), looks := true }, kinds := [], alts := [], laidByText := true, laidKinds := [.data, .data, .data, .data, .sentinel, .sentinel, .pinned], laidTests := true, laidLooks := .later }
def BlindingQuorumCardSaid : Prop := Claim7.holds Tryz.pinned (.plain (OpenSpec.ofChange blindingQuorumSpec)) blindingQuorumCard

/-- THE TIED CARD OF 'observatorylaw52.BlindingFalse'. -/
def blindingFalseCard : Claim7 := { stood := { row := blindingFalseRow, standIns := [], harness := (true, "c42d7a77e796d3aa2c4148ef01025760f5969a9351a3881caefe4e25f79d08a3"), looks := true }, kinds := [], alts := [], laidByText := true, laidKinds := [.data, .data, .data, .data, .sentinel, .sentinel, .pinned], laidTests := true, laidLooks := .later }
def BlindingFalseCardSaid : Prop := Claim7.holds Tryz.pinned (.plain (OpenSpec.ofChange blindingFalseSpec)) blindingFalseCard

/-- THE SECOND FORM's CARD OF 'observatorytop.TopBlinded'. -/
def topBlindedUptoCard : Claim7 := { stood := { row := topBlindedUptoRow, standIns := [], harness := (true, "c42d7a77e796d3aa2c4148ef01025760f5969a9351a3881caefe4e25f79d08a3"), looks := true }, kinds := [], alts := [], laidByText := true, laidKinds := [.data, .data, .data, .data, .sentinel, .sentinel, .pinned], laidTests := true, laidLooks := .later }
def TopBlindedUptoCardSaid : Prop := Claim7.holds Tryz.pinned (.plain (OpenSpec.upto topBlindedSpec)) topBlindedUptoCard

/-- THE SECOND FORM's CARD OF 'observatorylaw52.BlindingMatchesReference'. -/
def blindingMatchesReferenceUptoCard : Claim7 := { stood := { row := blindingMatchesReferenceUptoRow, standIns := [], harness := (true, "c42d7a77e796d3aa2c4148ef01025760f5969a9351a3881caefe4e25f79d08a3"), looks := true }, kinds := [], alts := [], laidByText := true, laidKinds := [.data, .data, .data, .data, .sentinel, .sentinel, .pinned], laidTests := true, laidLooks := .later }
def BlindingMatchesReferenceUptoCardSaid : Prop := Claim7.holds Tryz.pinned (.plain (OpenSpec.upto blindingMatchesReferenceSpec)) blindingMatchesReferenceUptoCard

/-- THE SECOND FORM's CARD OF 'observatorylaw52.BlindingBack'. -/
def blindingBackUptoCard : Claim7 := { stood := { row := blindingBackUptoRow, standIns := [], harness := (true, "c42d7a77e796d3aa2c4148ef01025760f5969a9351a3881caefe4e25f79d08a3"), looks := true }, kinds := [], alts := [], laidByText := true, laidKinds := [.data, .data, .data, .data, .sentinel, .sentinel, .pinned], laidTests := true, laidLooks := .later }
def BlindingBackUptoCardSaid : Prop := Claim7.holds Tryz.pinned (.plain (OpenSpec.upto blindingBackSpec)) blindingBackUptoCard

/-- THE SECOND FORM's CARD OF 'observatorylaw52.BlindingQuorum'. -/
def blindingQuorumUptoCard : Claim7 := { stood := { row := blindingQuorumUptoRow, standIns := [], harness := (true, "c42d7a77e796d3aa2c4148ef01025760f5969a9351a3881caefe4e25f79d08a3"), looks := true }, kinds := [], alts := [], laidByText := true, laidKinds := [.data, .data, .data, .data, .sentinel, .sentinel, .pinned], laidTests := true, laidLooks := .later }
def BlindingQuorumUptoCardSaid : Prop := Claim7.holds Tryz.pinned (.plain (OpenSpec.upto blindingQuorumSpec)) blindingQuorumUptoCard

/-- THE SECOND FORM's CARD OF 'observatorylaw52.BlindingFalse'. -/
def blindingFalseUptoCard : Claim7 := { stood := { row := blindingFalseUptoRow, standIns := [], harness := (true, "c42d7a77e796d3aa2c4148ef01025760f5969a9351a3881caefe4e25f79d08a3"), looks := true }, kinds := [], alts := [], laidByText := true, laidKinds := [.data, .data, .data, .data, .sentinel, .sentinel, .pinned], laidTests := true, laidLooks := .later }
def BlindingFalseUptoCardSaid : Prop := Claim7.holds Tryz.pinned (.plain (OpenSpec.upto blindingFalseSpec)) blindingFalseUptoCard
end Rows
end Go.Proofs.YtdlgejofggbifaaGreatDoor
