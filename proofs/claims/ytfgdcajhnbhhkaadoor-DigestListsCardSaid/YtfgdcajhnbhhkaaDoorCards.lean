/-
  DERIVED. GIVEN WITH THE SEED: THE CARDS: each row of YtfgdcajhnbhhkaaDoorRows.lean that lists a variable, with what it lists TIED to the program's text (the seventh form; the later family's looks); each row that meets fmt, with fmt's text TOLD by the authors' own Lean function (tested against real Go, not proved from fmt's source: count such statements apart). THE CARD IS WHAT COUNTS. Prove the row's statement (the work); the ties are given (YtfgdcajhnbhhkaaDoorTie.lean); close each card by the builder's one call (the guide's Derived/Test/ToyasCard.lean, 'card_holds'). Laid BY PROGRAM, IN A SANDBOX (cutbox-door.mjs). By AI agents, Wed Nov 11 2026. No macro, syntax, notation, axiom, sorry.
-/
import Derived.Test.YtfgdcajhnbhhkaaDoorRows
import GoSem.ClaimSeven
namespace Go.Proofs.YtfgdcajhnbhhkaaDoor
namespace Rows

/-- THE TIED CARD OF 'observatorylaw01.DigestMatchesReference'. -/
def digestMatchesReferenceCard : Claim7 := { stood := { row := digestMatchesReferenceRow, standIns := [], harness := (true, "9e7e2714745d8062a97d72251fbb780058350c4677e8809ec7a1d204d4bd795c"), looks := false }, kinds := [], alts := [], laidByText := true, laidKinds := [.data, .data, .data, .data, .pinned], laidTests := true, laidLooks := .later }
def DigestMatchesReferenceCardSaid : Prop := Claim7.holds Tryd.pinned (.plain (OpenSpec.ofChange digestMatchesReferenceSpec)) digestMatchesReferenceCard

/-- THE TIED CARD OF 'observatorylaw01.DigestLong'. -/
def digestLongCard : Claim7 := { stood := { row := digestLongRow, standIns := [], harness := (true, "9e7e2714745d8062a97d72251fbb780058350c4677e8809ec7a1d204d4bd795c"), looks := false }, kinds := [], alts := [], laidByText := true, laidKinds := [.data, .data, .data, .data, .pinned], laidTests := true, laidLooks := .later }
def DigestLongCardSaid : Prop := Claim7.holds Tryd.pinned (.plain (OpenSpec.ofChange digestLongSpec)) digestLongCard

/-- THE TIED CARD OF 'observatorylaw01.DigestForm'. -/
def digestFormCard : Claim7 := { stood := { row := digestFormRow, standIns := [], harness := (true, "9e7e2714745d8062a97d72251fbb780058350c4677e8809ec7a1d204d4bd795c"), looks := false }, kinds := [], alts := [], laidByText := true, laidKinds := [.data, .data, .data, .data, .pinned], laidTests := true, laidLooks := .later }
def DigestFormCardSaid : Prop := Claim7.holds Tryd.pinned (.plain (OpenSpec.ofChange digestFormSpec)) digestFormCard

/-- THE TIED CARD OF 'observatorylaw01.DigestShort'. -/
def digestShortCard : Claim7 := { stood := { row := digestShortRow, standIns := [], harness := (true, "9e7e2714745d8062a97d72251fbb780058350c4677e8809ec7a1d204d4bd795c"), looks := false }, kinds := [], alts := [], laidByText := true, laidKinds := [.data, .data, .data, .data, .pinned], laidTests := true, laidLooks := .later }
def DigestShortCardSaid : Prop := Claim7.holds Tryd.pinned (.plain (OpenSpec.ofChange digestShortSpec)) digestShortCard

/-- THE TIED CARD OF 'observatorylaw01.DigestBlock'. -/
def digestBlockCard : Claim7 := { stood := { row := digestBlockRow, standIns := [], harness := (true, "9e7e2714745d8062a97d72251fbb780058350c4677e8809ec7a1d204d4bd795c"), looks := false }, kinds := [], alts := [], laidByText := true, laidKinds := [.data, .data, .data, .data, .pinned], laidTests := true, laidLooks := .later }
def DigestBlockCardSaid : Prop := Claim7.holds Tryd.pinned (.plain (OpenSpec.ofChange digestBlockSpec)) digestBlockCard

/-- THE TIED CARD OF 'observatorylaw01.DigestChains'. -/
def digestChainsCard : Claim7 := { stood := { row := digestChainsRow, standIns := [], harness := (true, "9e7e2714745d8062a97d72251fbb780058350c4677e8809ec7a1d204d4bd795c"), looks := false }, kinds := [], alts := [], laidByText := true, laidKinds := [.data, .data, .data, .data, .pinned], laidTests := true, laidLooks := .later }
def DigestChainsCardSaid : Prop := Claim7.holds Tryd.pinned (.plain (OpenSpec.ofChange digestChainsSpec)) digestChainsCard

/-- THE TIED CARD OF 'observatorylaw01.DigestLists'. -/
def digestListsCard : Claim7 := { stood := { row := digestListsRow, standIns := [], harness := (true, "9e7e2714745d8062a97d72251fbb780058350c4677e8809ec7a1d204d4bd795c"), looks := false }, kinds := [], alts := [], laidByText := true, laidKinds := [.data, .data, .data, .data, .pinned], laidTests := true, laidLooks := .later }
def DigestListsCardSaid : Prop := Claim7.holds Tryd.pinned (.plain (OpenSpec.ofChange digestListsSpec)) digestListsCard

/-- THE SECOND FORM's CARD OF 'observatorylaw01.DigestMatchesReference'. -/
def digestMatchesReferenceUptoCard : Claim7 := { stood := { row := digestMatchesReferenceUptoRow, standIns := [], harness := (true, "9e7e2714745d8062a97d72251fbb780058350c4677e8809ec7a1d204d4bd795c"), looks := false }, kinds := [], alts := [], laidByText := true, laidKinds := [.data, .data, .data, .data, .pinned], laidTests := true, laidLooks := .later }
def DigestMatchesReferenceUptoCardSaid : Prop := Claim7.holds Tryd.pinned (.plain (OpenSpec.upto digestMatchesReferenceSpec)) digestMatchesReferenceUptoCard

/-- THE SECOND FORM's CARD OF 'observatorylaw01.DigestLong'. -/
def digestLongUptoCard : Claim7 := { stood := { row := digestLongUptoRow, standIns := [], harness := (true, "9e7e2714745d8062a97d72251fbb780058350c4677e8809ec7a1d204d4bd795c"), looks := false }, kinds := [], alts := [], laidByText := true, laidKinds := [.data, .data, .data, .data, .pinned], laidTests := true, laidLooks := .later }
def DigestLongUptoCardSaid : Prop := Claim7.holds Tryd.pinned (.plain (OpenSpec.upto digestLongSpec)) digestLongUptoCard

/-- THE SECOND FORM's CARD OF 'observatorylaw01.DigestForm'. -/
def digestFormUptoCard : Claim7 := { stood := { row := digestFormUptoRow, standIns := [], harness := (true, "9e7e2714745d8062a97d72251fbb780058350c4677e8809ec7a1d204d4bd795c"), looks := false }, kinds := [], alts := [], laidByText := true, laidKinds := [.data, .data, .data, .data, .pinned], laidTests := true, laidLooks := .later }
def DigestFormUptoCardSaid : Prop := Claim7.holds Tryd.pinned (.plain (OpenSpec.upto digestFormSpec)) digestFormUptoCard

/-- THE SECOND FORM's CARD OF 'observatorylaw01.DigestShort'. -/
def digestShortUptoCard : Claim7 := { stood := { row := digestShortUptoRow, standIns := [], harness := (true, "9e7e2714745d8062a97d72251fbb780058350c4677e8809ec7a1d204d4bd795c"), looks := false }, kinds := [], alts := [], laidByText := true, laidKinds := [.data, .data, .data, .data, .pinned], laidTests := true, laidLooks := .later }
def DigestShortUptoCardSaid : Prop := Claim7.holds Tryd.pinned (.plain (OpenSpec.upto digestShortSpec)) digestShortUptoCard

/-- THE SECOND FORM's CARD OF 'observatorylaw01.DigestBlock'. -/
def digestBlockUptoCard : Claim7 := { stood := { row := digestBlockUptoRow, standIns := [], harness := (true, "9e7e2714745d8062a97d72251fbb780058350c4677e8809ec7a1d204d4bd795c"), looks := false }, kinds := [], alts := [], laidByText := true, laidKinds := [.data, .data, .data, .data, .pinned], laidTests := true, laidLooks := .later }
def DigestBlockUptoCardSaid : Prop := Claim7.holds Tryd.pinned (.plain (OpenSpec.upto digestBlockSpec)) digestBlockUptoCard

/-- THE SECOND FORM's CARD OF 'observatorylaw01.DigestChains'. -/
def digestChainsUptoCard : Claim7 := { stood := { row := digestChainsUptoRow, standIns := [], harness := (true, "9e7e2714745d8062a97d72251fbb780058350c4677e8809ec7a1d204d4bd795c"), looks := false }, kinds := [], alts := [], laidByText := true, laidKinds := [.data, .data, .data, .data, .pinned], laidTests := true, laidLooks := .later }
def DigestChainsUptoCardSaid : Prop := Claim7.holds Tryd.pinned (.plain (OpenSpec.upto digestChainsSpec)) digestChainsUptoCard

/-- THE SECOND FORM's CARD OF 'observatorylaw01.DigestLists'. -/
def digestListsUptoCard : Claim7 := { stood := { row := digestListsUptoRow, standIns := [], harness := (true, "9e7e2714745d8062a97d72251fbb780058350c4677e8809ec7a1d204d4bd795c"), looks := false }, kinds := [], alts := [], laidByText := true, laidKinds := [.data, .data, .data, .data, .pinned], laidTests := true, laidLooks := .later }
def DigestListsUptoCardSaid : Prop := Claim7.holds Tryd.pinned (.plain (OpenSpec.upto digestListsSpec)) digestListsUptoCard
end Rows
end Go.Proofs.YtfgdcajhnbhhkaaDoor
