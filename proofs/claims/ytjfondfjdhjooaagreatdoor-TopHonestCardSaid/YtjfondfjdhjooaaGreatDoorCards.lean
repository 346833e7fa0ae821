/-
  DERIVED. GIVEN WITH THE SEED: THE CARDS: each row of YtjfondfjdhjooaaGreatDoorRows.lean that lists a variable, with what it lists TIED to the program's text (the seventh form; the later family's looks); each row that meets fmt, with fmt's text TOLD by the authors' own Lean function (tested against real Go, not proved from fmt's source: count such statements apart). THE CARD IS WHAT COUNTS. Prove the row's statement (the work); the ties are given (YtjfondfjdhjooaaGreatDoorTie.lean); close each card by the builder's one call (the guide's Derived/Test/ToyasCard.lean, 'card_holds'). Laid BY PROGRAM, IN A SANDBOX (cutbox-door.mjs). By AI agents, Wed Nov 11 2026. No macro, syntax, notation, axiom, sorry.
-/
import Derived.Test.YtjfondfjdhjooaaGreatDoorRows
import GoSem.ClaimSeven
namespace Go.Proofs.YtjfondfjdhjooaaGreatDoor
namespace Rows

/-- THE TIED CARD OF 'observatorytop.TopHonest'. -/
def topHonestCard : Claim7 := { stood := { row := topHonestRow, standIns := [], harness := (true, "7d5b07ff9c47827cbdd67b5415ecb89c662a1d193f84d34a7310c90a06c0b304"), looks := false }, kinds := [], alts := [], laidByText := true, laidKinds := [.data, .data, .data, .data, .pinned], laidTests := true, laidLooks := .later }
def TopHonestCardSaid : Prop := Claim7.holds Tryz.pinned (.plain (OpenSpec.ofChange topHonestSpec)) topHonestCard

/-- THE TIED CARD OF 'observatorylaw30.KeeperMatchesReference'. -/
def keeperMatchesReferenceCard : Claim7 := { stood := { row := keeperMatchesReferenceRow, standIns := [], harness := (true, "7d5b07ff9c47827cbdd67b5415ecb89c662a1d193f84d34a7310c90a06c0b304"), looks := false }, kinds := [], alts := [], laidByText := true, laidKinds := [.data, .data, .data, .data, .pinned], laidTests := true, laidLooks := .later }
def KeeperMatchesReferenceCardSaid : Prop := Claim7.holds Tryz.pinned (.plain (OpenSpec.ofChange keeperMatchesReferenceSpec)) keeperMatchesReferenceCard

/-- THE TIED CARD OF 'observatorylaw30.KeeperDrawsAsReference'. -/
def keeperDrawsAsReferenceCard : Claim7 := { stood := { row := keeperDrawsAsReferenceRow, standIns := [], harness := (true, "7d5b07ff9c47827cbdd67b5415ecb89c662a1d193f84d34a7310c90a06c0b304"), looks := false }, kinds := [], alts := [], laidByText := true, laidKinds := [.data, .data, .data, .data, .pinned], laidTests := true, laidLooks := .later }
def KeeperDrawsAsReferenceCardSaid : Prop := Claim7.holds Tryz.pinned (.plain (OpenSpec.ofChange keeperDrawsAsReferenceSpec)) keeperDrawsAsReferenceCard

/-- THE TIED CARD OF 'observatorylaw30.KeeperBinds'. -/
def keeperBindsCard : Claim7 := { stood := { row := keeperBindsRow, standIns := [], harness := (true, "7d5b07ff9c47827cbdd67b5415ecb89c662a1d193f84d34a7310c90a06c0b304"), looks := false }, kinds := [], alts := [], laidByText := true, laidKinds := [.data, .data, .data, .data, .pinned], laidTests := true, laidLooks := .later }
def KeeperBindsCardSaid : Prop := Claim7.holds Tryz.pinned (.plain (OpenSpec.ofChange keeperBindsSpec)) keeperBindsCard

/-- THE TIED CARD OF 'observatorylaw30.KeeperDraws'. -/
def keeperDrawsCard : Claim7 := { stood := { row := keeperDrawsRow, standIns := [], harness := (true, "7d5b07ff9c47827cbdd67b5415ecb89c662a1d193f84d34a7310c90a06c0b304"), looks := false }, kinds := [], alts := [], laidByText := true, laidKinds := [.data, .data, .data, .data, .pinned], laidTests := true, laidLooks := .later }
def KeeperDrawsCardSaid : Prop := Claim7.holds Tryz.pinned (.plain (OpenSpec.ofChange keeperDrawsSpec)) keeperDrawsCard

/-- THE TIED CARD OF 'observatorylaw30.KeeperRecovers'. -/
def keeperRecoversCard : Claim7 := { stood := { row := keeperRecoversRow, standIns := [], harness := (true, "7d5b07ff9c47827cbdd67b5415ecb89c662a1d193f84d34a7310c90a06c0b304"), looks := false }, kinds := [], alts := [], laidByText := true, laidKinds := [.data, .data, .data, .data, .pinned], laidTests := true, laidLooks := .later }
def KeeperRecoversCardSaid : Prop := Claim7.holds Tryz.pinned (.plain (OpenSpec.ofChange keeperRecoversSpec)) keeperRecoversCard

/-- THE TIED CARD OF 'observatorylaw30.KeeperIgnores'. -/
def keeperIgnoresCard : Claim7 := { stood := { row := keeperIgnoresRow, standIns := [], harness := (true, "7d5b07ff9c47827cbdd67b5415ecb89c662a1d193f84d34a7310c90a06c0b304"), looks := false }, kinds := [], alts := [], laidByText := true, laidKinds := [.data, .data, .data, .data, .pinned], laidTests := true, laidLooks := .later }
def KeeperIgnoresCardSaid : Prop := Claim7.holds Tryz.pinned (.plain (OpenSpec.ofChange keeperIgnoresSpec)) keeperIgnoresCard

/-- THE SECOND FORM's CARD OF 'observatorytop.TopHonest'. -/
def topHonestUptoCard : Claim7 := { stood := { row := topHonestUptoRow, standIns := [], harness := (true, "7d5b07ff9c47827cbdd67b5415ecb89c662a1d193f84d34a7310c90a06c0b304"), looks := false }, kinds := [], alts := [], laidByText := true, laidKinds := [.data, .data, .data, .data, .pinned], laidTests := true, laidLooks := .later }
def TopHonestUptoCardSaid : Prop := Claim7.holds Tryz.pinned (.plain (OpenSpec.upto topHonestSpec)) topHonestUptoCard

/-- THE SECOND FORM's CARD OF 'observatorylaw30.KeeperMatchesReference'. -/
def keeperMatchesReferenceUptoCard : Claim7 := { stood := { row := keeperMatchesReferenceUptoRow, standIns := [], harness := (true, "7d5b07ff9c47827cbdd67b5415ecb89c662a1d193f84d34a7310c90a06c0b304"), looks := false }, kinds := [], alts := [], laidByText := true, laidKinds := [.data, .data, .data, .data, .pinned], laidTests := true, laidLooks := .later }
def KeeperMatchesReferenceUptoCardSaid : Prop := Claim7.holds Tryz.pinned (.plain (OpenSpec.upto keeperMatchesReferenceSpec)) keeperMatchesReferenceUptoCard

/-- THE SECOND FORM's CARD OF 'observatorylaw30.KeeperDrawsAsReference'. -/
def keeperDrawsAsReferenceUptoCard : Claim7 := { stood := { row := keeperDrawsAsReferenceUptoRow, standIns := [], harness := (true, "7d5b07ff9c47827cbdd67b5415ecb89c662a1d193f84d34a7310c90a06c0b304"), looks := false }, kinds := [], alts := [], laidByText := true, laidKinds := [.data, .data, .data, .data, .pinned], laidTests := true, laidLooks := .later }
def KeeperDrawsAsReferenceUptoCardSaid : Prop := Claim7.holds Tryz.pinned (.plain (OpenSpec.upto keeperDrawsAsReferenceSpec)) keeperDrawsAsReferenceUptoCard

/-- THE SECOND FORM's CARD OF 'observatorylaw30.KeeperBinds'. -/
def keeperBindsUptoCard : Claim7 := { stood := { row := keeperBindsUptoRow, standIns := [], harness := (true, "7d5b07ff9c47827cbdd67b5415ecb89c662a1d193f84d34a7310c90a06c0b304"), looks := false }, kinds := [], alts := [], laidByText := true, laidKinds := [.data, .data, .data, .data, .pinned], laidTests := true, laidLooks := .later }
def KeeperBindsUptoCardSaid : Prop := Claim7.holds Tryz.pinned (.plain (OpenSpec.upto keeperBindsSpec)) keeperBindsUptoCard

/-- THE SECOND FORM's CARD OF 'observatorylaw30.KeeperDraws'. -/
def keeperDrawsUptoCard : Claim7 := { stood := { row := keeperDrawsUptoRow, standIns := [], harness := (true, "7d5b07ff9c47827cbdd67b5415ecb89c662a1d193f84d34a7310c90a06c0b304"), looks := false }, kinds := [], alts := [], laidByText := true, laidKinds := [.data, .data, .data, .data, .pinned], laidTests := true, laidLooks := .later }
def KeeperDrawsUptoCardSaid : Prop := Claim7.holds Tryz.pinned (.plain (OpenSpec.upto keeperDrawsSpec)) keeperDrawsUptoCard

/-- THE SECOND FORM's CARD OF 'observatorylaw30.KeeperRecovers'. -/
def keeperRecoversUptoCard : Claim7 := { stood := { row := keeperRecoversUptoRow, standIns := [], harness := (true, "7d5b07ff9c47827cbdd67b5415ecb89c662a1d193f84d34a7310c90a06c0b304"), looks := false }, kinds := [], alts := [], laidByText := true, laidKinds := [.data, .data, .data, .data, .pinned], laidTests := true, laidLooks := .later }
def KeeperRecoversUptoCardSaid : Prop := Claim7.holds Tryz.pinned (.plain (OpenSpec.upto keeperRecoversSpec)) keeperRecoversUptoCard

/-- THE SECOND FORM's CARD OF 'observatorylaw30.KeeperIgnores'. -/
def keeperIgnoresUptoCard : Claim7 := { stood := { row := keeperIgnoresUptoRow, standIns := [], harness := (true, "7d5b07ff9c47827cbdd67b5415ecb89c662a1d193f84d34a7310c90a06c0b304"), looks := false }, kinds := [], alts := [], laidByText := true, laidKinds := [.data, .data, .data, .data, .pinned], laidTests := true, laidLooks := .later }
def KeeperIgnoresUptoCardSaid : Prop := Claim7.holds Tryz.pinned (.plain (OpenSpec.upto keeperIgnoresSpec)) keeperIgnoresUptoCard
end Rows
end Go.Proofs.YtjfondfjdhjooaaGreatDoor
