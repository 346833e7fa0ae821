/-
  DERIVED. GIVEN WITH THE SEED: THE CARDS: each row of YtbefcipeojahfaaGreatDoorRows.lean that lists a variable, with what it lists TIED to the program's text (the seventh form; the later family's looks); each row that meets fmt, with fmt's text TOLD by the authors' own Lean function (tested against real Go, not proved from fmt's source: count such statements apart). THE CARD IS WHAT COUNTS. Prove the row's statement (the work); the ties are given (YtbefcipeojahfaaGreatDoorTie.lean); close each card by the builder's one call (the guide's Derived/Test/ToyasCard.lean, 'card_holds'). Laid BY PROGRAM, IN A SANDBOX (cutbox-door.mjs). By AI agents, Wed Nov 11 2026. No macro, syntax, notation, axiom, sorry.
-/
import Derived.Test.YtbefcipeojahfaaGreatDoorRows
import GoSem.ClaimSeven
namespace Go.Proofs.YtbefcipeojahfaaGreatDoor
namespace Rows

/-- THE TIED CARD OF 'observatorylaw07.SharesMatchReference'. -/
def sharesMatchReferenceCard : Claim7 := { stood := { row := sharesMatchReferenceRow, standIns := [], harness := (true, "f44c38993d950640dc760f6ada5c45b5688f8590e66ae4550d645286477c6db1"), looks := false }, kinds := [], alts := [], laidByText := true, laidKinds := [.data, .data, .data, .data, .pinned], laidTests := true, laidLooks := .later }
def SharesMatchReferenceCardSaid : Prop := Claim7.holds Tryz.pinned (.plain (OpenSpec.ofChange sharesMatchReferenceSpec)) sharesMatchReferenceCard

/-- THE TIED CARD OF 'observatorylaw07.SharesCommit'. -/
def sharesCommitCard : Claim7 := { stood := { row := sharesCommitRow, standIns := [], harness := (true, "f44c38993d950640dc760f6ada5c45b5688f8590e66ae4550d645286477c6db1"), looks := false }, kinds := [], alts := [], laidByText := true, laidKinds := [.data, .data, .data, .data, .pinned], laidTests := true, laidLooks := .later }
def SharesCommitCardSaid : Prop := Claim7.holds Tryz.pinned (.plain (OpenSpec.ofChange sharesCommitSpec)) sharesCommitCard

/-- THE SECOND FORM's CARD OF 'observatorylaw07.SharesMatchReference'. -/
def sharesMatchReferenceUptoCard : Claim7 := { stood := { row := sharesMatchReferenceUptoRow, standIns := [], harness := (true, "f44c38993d950640dc760f6ada5c45b5688f8590e66ae4550d645286477c6db1"), looks := false }, kinds := [], alts := [], laidByText := true, laidKinds := [.data, .data, .data, .data, .pinned], laidTests := true, laidLooks := .later }
def SharesMatchReferenceUptoCardSaid : Prop := Claim7.holds Tryz.pinned (.plain (OpenSpec.upto sharesMatchReferenceSpec)) sharesMatchReferenceUptoCard

/-- THE SECOND FORM's CARD OF 'observatorylaw07.SharesCommit'. -/
def sharesCommitUptoCard : Claim7 := { stood := { row := sharesCommitUptoRow, standIns := [], harness := (true, "f44c38993d950640dc760f6ada5c45b5688f8590e66ae4550d645286477c6db1"), looks := false }, kinds := [], alts := [], laidByText := true, laidKinds := [.data, .data, .data, .data, .pinned], laidTests := true, laidLooks := .later }
def SharesCommitUptoCardSaid : Prop := Claim7.holds Tryz.pinned (.plain (OpenSpec.upto sharesCommitSpec)) sharesCommitUptoCard
end Rows
end Go.Proofs.YtbefcipeojahfaaGreatDoor
