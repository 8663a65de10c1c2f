/-
  DERIVED. GIVEN WITH THE SEED: THE CARDS: each row of YtlnfcahmdnnabaaDoorRows.lean that lists a variable, with what it lists TIED to the program's text (the seventh form; the later family's looks); each row that meets fmt, with fmt's text TOLD by the authors' own Lean function (tested against real Go, not proved from fmt's source: count such statements apart). THE CARD IS WHAT COUNTS. Prove the row's statement (the work); the ties are given (YtlnfcahmdnnabaaDoorTie.lean); close each card by the builder's one call (the guide's Derived/Test/ToyasCard.lean, 'card_holds'). Laid BY PROGRAM, IN A SANDBOX (cutbox-door.mjs). By AI agents, Wed Nov 11 2026. No macro, syntax, notation, axiom, sorry.
-/
import Derived.Test.YtlnfcahmdnnabaaDoorRows
import GoSem.ClaimSeven
namespace Go.Proofs.YtlnfcahmdnnabaaDoor
namespace Rows

/-- THE TIED CARD OF 'blockworkslaw06.WearReads'. -/
def wearReadsCard : Claim7 := { stood := { row := wearReadsRow, standIns := [], harness := (true, "8f5eea0d9a0f0ea91c21147f0ec7f6c8d8ec91a7aeedfb1406b2a14b6b27a7ef"), looks := true }, kinds := [], alts := [], laidByText := true, laidKinds := [.data], laidTests := true, laidLooks := .later }
def WearReadsCardSaid : Prop := Claim7.holds Tryd.pinned (.plain (OpenSpec.ofChange wearReadsSpec)) wearReadsCard

/-- THE TIED CARD OF 'blockworkslaw06.WearLooks'. -/
def wearLooksCard : Claim7 := { stood := { row := wearLooksRow, standIns := [], harness := (true, "8f5eea0d9a0f0ea91c21147f0ec7f6c8d8ec91a7aeedfb1406b2a14b6b27a7ef"), looks := true }, kinds := [], alts := [], laidByText := true, laidKinds := [.data], laidTests := true, laidLooks := .later }
def WearLooksCardSaid : Prop := Claim7.holds Tryd.pinned (.plain (OpenSpec.ofChange wearLooksSpec)) wearLooksCard

/-- THE TIED CARD OF 'blockworkslaw06.WearTrue'. -/
def wearTrueCard : Claim7 := { stood := { row := wearTrueRow, standIns := [], harness := (true, "8f5eea0d9a0f0ea91c21147f0ec7f6c8d8ec91a7aeedfb1406b2a14b6b27a7ef"), looks := true }, kinds := [], alts := [], laidByText := true, laidKinds := [.data], laidTests := true, laidLooks := .later }
def WearTrueCardSaid : Prop := Claim7.holds Tryd.pinned (.plain (OpenSpec.ofChange wearTrueSpec)) wearTrueCard

/-- THE TIED CARD OF 'blockworkslaw06.WearEnds'. -/
def wearEndsCard : Claim7 := { stood := { row := wearEndsRow, standIns := [], harness := (true, "8f5eea0d9a0f0ea91c21147f0ec7f6c8d8ec91a7aeedfb1406b2a14b6b27a7ef"), looks := true }, kinds := [], alts := [], laidByText := true, laidKinds := [.data], laidTests := true, laidLooks := .later }
def WearEndsCardSaid : Prop := Claim7.holds Tryd.pinned (.plain (OpenSpec.ofChange wearEndsSpec)) wearEndsCard

/-- THE TIED CARD OF 'blockworkslaw06.WearShort'. -/
def wearShortCard : Claim7 := { stood := { row := wearShortRow, standIns := [], harness := (true, "8f5eea0d9a0f0ea91c21147f0ec7f6c8d8ec91a7aeedfb1406b2a14b6b27a7ef"), looks := true }, kinds := [], alts := [], laidByText := true, laidKinds := [.data], laidTests := true, laidLooks := .later }
def WearShortCardSaid : Prop := Claim7.holds Tryd.pinned (.plain (OpenSpec.ofChange wearShortSpec)) wearShortCard

/-- THE TIED CARD OF 'blockworkslaw06.WearFits'. -/
def wearFitsCard : Claim7 := { stood := { row := wearFitsRow, standIns := [], harness := (true, "8f5eea0d9a0f0ea91c21147f0ec7f6c8d8ec91a7aeedfb1406b2a14b6b27a7ef"), looks := true }, kinds := [], alts := [], laidByText := true, laidKinds := [.data], laidTests := true, laidLooks := .later }
def WearFitsCardSaid : Prop := Claim7.holds Tryd.pinned (.plain (OpenSpec.ofChange wearFitsSpec)) wearFitsCard

/-- THE TIED CARD OF 'blockworkslaw06.WearClash'. -/
def wearClashCard : Claim7 := { stood := { row := wearClashRow, standIns := [], harness := (true, "8f5eea0d9a0f0ea91c21147f0ec7f6c8d8ec91a7aeedfb1406b2a14b6b27a7ef"), looks := true }, kinds := [], alts := [], laidByText := true, laidKinds := [.data], laidTests := true, laidLooks := .later }
def WearClashCardSaid : Prop := Claim7.holds Tryd.pinned (.plain (OpenSpec.ofChange wearClashSpec)) wearClashCard

/-- THE TIED CARD OF 'blockworkslaw06.WearMore'. -/
def wearMoreCard : Claim7 := { stood := { row := wearMoreRow, standIns := [], harness := (true, "8f5eea0d9a0f0ea91c21147f0ec7f6c8d8ec91a7aeedfb1406b2a14b6b27a7ef"), looks := true }, kinds := [], alts := [], laidByText := true, laidKinds := [.data], laidTests := true, laidLooks := .later }
def WearMoreCardSaid : Prop := Claim7.holds Tryd.pinned (.plain (OpenSpec.ofChange wearMoreSpec)) wearMoreCard

/-- THE TIED CARD OF 'blockworkslaw06.WearLater'. -/
def wearLaterCard : Claim7 := { stood := { row := wearLaterRow, standIns := [], harness := (true, "8f5eea0d9a0f0ea91c21147f0ec7f6c8d8ec91a7aeedfb1406b2a14b6b27a7ef"), looks := true }, kinds := [], alts := [], laidByText := true, laidKinds := [.data], laidTests := true, laidLooks := .later }
def WearLaterCardSaid : Prop := Claim7.holds Tryd.pinned (.plain (OpenSpec.ofChange wearLaterSpec)) wearLaterCard

/-- THE SECOND FORM's CARD OF 'blockworkslaw06.WearReads'. -/
def wearReadsUptoCard : Claim7 := { stood := { row := wearReadsUptoRow, standIns := [], harness := (true, "8f5eea0d9a0f0ea91c21147f0ec7f6c8d8ec91a7aeedfb1406b2a14b6b27a7ef"), looks := true }, kinds := [], alts := [], laidByText := true, laidKinds := [.data], laidTests := true, laidLooks := .later }
def WearReadsUptoCardSaid : Prop := Claim7.holds Tryd.pinned (.plain (OpenSpec.upto wearReadsSpec)) wearReadsUptoCard

/-- THE SECOND FORM's CARD OF 'blockworkslaw06.WearLooks'. -/
def wearLooksUptoCard : Claim7 := { stood := { row := wearLooksUptoRow, standIns := [], harness := (true, "8f5eea0d9a0f0ea91c21147f0ec7f6c8d8ec91a7aeedfb1406b2a14b6b27a7ef"), looks := true }, kinds := [], alts := [], laidByText := true, laidKinds := [.data], laidTests := true, laidLooks := .later }
def WearLooksUptoCardSaid : Prop := Claim7.holds Tryd.pinned (.plain (OpenSpec.upto wearLooksSpec)) wearLooksUptoCard

/-- THE SECOND FORM's CARD OF 'blockworkslaw06.WearTrue'. -/
def wearTrueUptoCard : Claim7 := { stood := { row := wearTrueUptoRow, standIns := [], harness := (true, "8f5eea0d9a0f0ea91c21147f0ec7f6c8d8ec91a7aeedfb1406b2a14b6b27a7ef"), looks := true }, kinds := [], alts := [], laidByText := true, laidKinds := [.data], laidTests := true, laidLooks := .later }
def WearTrueUptoCardSaid : Prop := Claim7.holds Tryd.pinned (.plain (OpenSpec.upto wearTrueSpec)) wearTrueUptoCard

/-- THE SECOND FORM's CARD OF 'blockworkslaw06.WearEnds'. -/
def wearEndsUptoCard : Claim7 := { stood := { row := wearEndsUptoRow, standIns := [], harness := (true, "8f5eea0d9a0f0ea91c21147f0ec7f6c8d8ec91a7aeedfb1406b2a14b6b27a7ef"), looks := true }, kinds := [], alts := [], laidByText := true, laidKinds := [.data], laidTests := true, laidLooks := .later }
def WearEndsUptoCardSaid : Prop := Claim7.holds Tryd.pinned (.plain (OpenSpec.upto wearEndsSpec)) wearEndsUptoCard

/-- THE SECOND FORM's CARD OF 'blockworkslaw06.WearShort'. -/
def wearShortUptoCard : Claim7 := { stood := { row := wearShortUptoRow, standIns := [], harness := (true, "8f5eea0d9a0f0ea91c21147f0ec7f6c8d8ec91a7aeedfb1406b2a14b6b27a7ef"), looks := true }, kinds := [], alts := [], laidByText := true, laidKinds := [.data], laidTests := true, laidLooks := .later }
def WearShortUptoCardSaid : Prop := Claim7.holds Tryd.pinned (.plain (OpenSpec.upto wearShortSpec)) wearShortUptoCard

/-- THE SECOND FORM's CARD OF 'blockworkslaw06.WearFits'. -/
def wearFitsUptoCard : Claim7 := { stood := { row := wearFitsUptoRow, standIns := [], harness := (true, "8f5eea0d9a0f0ea91c21147f0ec7f6c8d8ec91a7aeedfb1406b2a14b6b27a7ef"), looks := true }, kinds := [], alts := [], laidByText := true, laidKinds := [.data], laidTests := true, laidLooks := .later }
def WearFitsUptoCardSaid : Prop := Claim7.holds Tryd.pinned (.plain (OpenSpec.upto wearFitsSpec)) wearFitsUptoCard

/-- THE SECOND FORM's CARD OF 'blockworkslaw06.WearClash'. -/
def wearClashUptoCard : Claim7 := { stood := { row := wearClashUptoRow, standIns := [], harness := (true, "8f5eea0d9a0f0ea91c21147f0ec7f6c8d8ec91a7aeedfb1406b2a14b6b27a7ef"), looks := true }, kinds := [], alts := [], laidByText := true, laidKinds := [.data], laidTests := true, laidLooks := .later }
def WearClashUptoCardSaid : Prop := Claim7.holds Tryd.pinned (.plain (OpenSpec.upto wearClashSpec)) wearClashUptoCard

/-- THE SECOND FORM's CARD OF 'blockworkslaw06.WearMore'. -/
def wearMoreUptoCard : Claim7 := { stood := { row := wearMoreUptoRow, standIns := [], harness := (true, "8f5eea0d9a0f0ea91c21147f0ec7f6c8d8ec91a7aeedfb1406b2a14b6b27a7ef"), looks := true }, kinds := [], alts := [], laidByText := true, laidKinds := [.data], laidTests := true, laidLooks := .later }
def WearMoreUptoCardSaid : Prop := Claim7.holds Tryd.pinned (.plain (OpenSpec.upto wearMoreSpec)) wearMoreUptoCard

/-- THE SECOND FORM's CARD OF 'blockworkslaw06.WearLater'. -/
def wearLaterUptoCard : Claim7 := { stood := { row := wearLaterUptoRow, standIns := [], harness := (true, "8f5eea0d9a0f0ea91c21147f0ec7f6c8d8ec91a7aeedfb1406b2a14b6b27a7ef"), looks := true }, kinds := [], alts := [], laidByText := true, laidKinds := [.data], laidTests := true, laidLooks := .later }
def WearLaterUptoCardSaid : Prop := Claim7.holds Tryd.pinned (.plain (OpenSpec.upto wearLaterSpec)) wearLaterUptoCard
end Rows
end Go.Proofs.YtlnfcahmdnnabaaDoor
