/-
  DERIVED. GIVEN WITH THE SEED: THE CARDS: each row of YtkodnhngllfemaaGreatDoorRows.lean that lists a variable, with what it lists TIED to the program's text (the seventh form; the later family's looks); each row that meets fmt, with fmt's text TOLD by the authors' own Lean function (tested against real Go, not proved from fmt's source: count such statements apart). THE CARD IS WHAT COUNTS. Prove the row's statement (the work); the ties are given (YtkodnhngllfemaaGreatDoorTie.lean); close each card by the builder's one call (the guide's Derived/Test/ToyasCard.lean, 'card_holds'). Laid BY PROGRAM, IN A SANDBOX (cutbox-door.mjs). By AI agents, Wed Nov 11 2026. No macro, syntax, notation, axiom, sorry.
-/
import Derived.Test.YtkodnhngllfemaaGreatDoorRows
import GoSem.ClaimSeven
namespace Go.Proofs.YtkodnhngllfemaaGreatDoor
namespace Rows

/-- THE TIED CARD OF 'winchlaw02.SyntaxTexts'. -/
def syntaxTextsCard : Claim7 := { stood := { row := syntaxTextsRow, standIns := [], harness := (true, "a576027afcbbe4ef8ffa038d5b1d0a2142096b89ca41872ec684e8f8d4f296d2"), looks := true }, kinds := [], alts := [], laidByText := true, laidKinds := [.data, .data, .data, .data, .data, .sentinel, .sentinel, .mapped], laidTests := true, laidLooks := .later }
def SyntaxTextsCardSaid : Prop := Claim7.holds Tryz.pinned (.plain (OpenSpec.ofChange syntaxTextsSpec)) syntaxTextsCard

/-- THE TIED CARD OF 'winchlaw02.SyntaxParts'. -/
def syntaxPartsCard : Claim7 := { stood := { row := syntaxPartsRow, standIns := [], harness := (true, "a576027afcbbe4ef8ffa038d5b1d0a2142096b89ca41872ec684e8f8d4f296d2"), looks := true }, kinds := [], alts := [], laidByText := true, laidKinds := [.data, .data, .data, .sentinel, .sentinel, .mapped], laidTests := true, laidLooks := .later }
def SyntaxPartsCardSaid : Prop := Claim7.holds Tryz.pinned (.plain (OpenSpec.ofChange syntaxPartsSpec)) syntaxPartsCard

/-- THE TIED CARD OF 'winchlaw02.SyntaxBefore'. -/
def syntaxBeforeCard : Claim7 := { stood := { row := syntaxBeforeRow, standIns := [], harness := (true, "a576027afcbbe4ef8ffa038d5b1d0a2142096b89ca41872ec684e8f8d4f296d2"), looks := true }, kinds := [], alts := [], laidByText := true, laidKinds := [.data, .data, .data, .sentinel, .sentinel, .mapped], laidTests := true, laidLooks := .later }
def SyntaxBeforeCardSaid : Prop := Claim7.holds Tryz.pinned (.plain (OpenSpec.ofChange syntaxBeforeSpec)) syntaxBeforeCard

/-- THE TIED CARD OF 'winchlaw02.SyntaxChecks'. -/
def syntaxChecksCard : Claim7 := { stood := { row := syntaxChecksRow, standIns := [], harness := (true, "a576027afcbbe4ef8ffa038d5b1d0a2142096b89ca41872ec684e8f8d4f296d2"), looks := true }, kinds := [], alts := [], laidByText := true, laidKinds := [.data, .data, .data, .sentinel, .sentinel, .mapped], laidTests := true, laidLooks := .later }
def SyntaxChecksCardSaid : Prop := Claim7.holds Tryz.pinned (.plain (OpenSpec.ofChange syntaxChecksSpec)) syntaxChecksCard

/-- THE TIED CARD OF 'winchlaw02.SyntaxExprs'. -/
def syntaxExprsCard : Claim7 := { stood := { row := syntaxExprsRow, standIns := [], harness := (true, "a576027afcbbe4ef8ffa038d5b1d0a2142096b89ca41872ec684e8f8d4f296d2"), looks := true }, kinds := [], alts := [], laidByText := true, laidKinds := [.data, .data, .data, .data, .data, .sentinel, .sentinel, .mapped], laidTests := true, laidLooks := .later }
def SyntaxExprsCardSaid : Prop := Claim7.holds Tryz.pinned (.plain (OpenSpec.ofChange syntaxExprsSpec)) syntaxExprsCard

/-- THE TIED CARD OF 'winchlaw02.SyntaxWrapped'. -/
def syntaxWrappedCard : Claim7 := { stood := { row := syntaxWrappedRow, standIns := [], harness := (true, "a576027afcbbe4ef8ffa038d5b1d0a2142096b89ca41872ec684e8f8d4f296d2"), looks := true }, kinds := [], alts := [], laidByText := true, laidKinds := [.data, .data, .data, .sentinel, .sentinel, .mapped], laidTests := true, laidLooks := .later }
def SyntaxWrappedCardSaid : Prop := Claim7.holds Tryz.pinned (.plain (OpenSpec.ofChange syntaxWrappedSpec)) syntaxWrappedCard

/-- THE TIED CARD OF 'winchlaw02.SyntaxWell'. -/
def syntaxWellCard : Claim7 := { stood := { row := syntaxWellRow, standIns := [], harness := (true, "a576027afcbbe4ef8ffa038d5b1d0a2142096b89ca41872ec684e8f8d4f296d2"), looks := true }, kinds := [], alts := [], laidByText := true, laidKinds := [.data, .data, .data, .sentinel, .sentinel, .mapped], laidTests := true, laidLooks := .later }
def SyntaxWellCardSaid : Prop := Claim7.holds Tryz.pinned (.plain (OpenSpec.ofChange syntaxWellSpec)) syntaxWellCard

/-- THE TIED CARD OF 'winchlaw02.SyntaxSame'. -/
def syntaxSameCard : Claim7 := { stood := { row := syntaxSameRow, standIns := [], harness := (true, "a576027afcbbe4ef8ffa038d5b1d0a2142096b89ca41872ec684e8f8d4f296d2"), looks := true }, kinds := [], alts := [], laidByText := true, laidKinds := [.data, .data, .data, .sentinel, .sentinel, .mapped], laidTests := true, laidLooks := .later }
def SyntaxSameCardSaid : Prop := Claim7.holds Tryz.pinned (.plain (OpenSpec.ofChange syntaxSameSpec)) syntaxSameCard

/-- THE TIED CARD OF 'winchlaw02.SyntaxJoined'. -/
def syntaxJoinedCard : Claim7 := { stood := { row := syntaxJoinedRow, standIns := [], harness := (true, "a576027afcbbe4ef8ffa038d5b1d0a2142096b89ca41872ec684e8f8d4f296d2"), looks := true }, kinds := [], alts := [], laidByText := true, laidKinds := [.data, .data, .data, .sentinel, .sentinel, .mapped], laidTests := true, laidLooks := .later }
def SyntaxJoinedCardSaid : Prop := Claim7.holds Tryz.pinned (.plain (OpenSpec.ofChange syntaxJoinedSpec)) syntaxJoinedCard

/-- THE SECOND FORM's CARD OF 'winchlaw02.SyntaxTexts'. -/
def syntaxTextsUptoCard : Claim7 := { stood := { row := syntaxTextsUptoRow, standIns := [], harness := (true, "a576027afcbbe4ef8ffa038d5b1d0a2142096b89ca41872ec684e8f8d4f296d2"), looks := true }, kinds := [], alts := [], laidByText := true, laidKinds := [.data, .data, .data, .data, .data, .sentinel, .sentinel, .mapped], laidTests := true, laidLooks := .later }
def SyntaxTextsUptoCardSaid : Prop := Claim7.holds Tryz.pinned (.plain (OpenSpec.upto syntaxTextsSpec)) syntaxTextsUptoCard

/-- THE SECOND FORM's CARD OF 'winchlaw02.SyntaxParts'. -/
def syntaxPartsUptoCard : Claim7 := { stood := { row := syntaxPartsUptoRow, standIns := [], harness := (true, "a576027afcbbe4ef8ffa038d5b1d0a2142096b89ca41872ec684e8f8d4f296d2"), looks := true }, kinds := [], alts := [], laidByText := true, laidKinds := [.data, .data, .data, .sentinel, .sentinel, .mapped], laidTests := true, laidLooks := .later }
def SyntaxPartsUptoCardSaid : Prop := Claim7.holds Tryz.pinned (.plain (OpenSpec.upto syntaxPartsSpec)) syntaxPartsUptoCard

/-- THE SECOND FORM's CARD OF 'winchlaw02.SyntaxBefore'. -/
def syntaxBeforeUptoCard : Claim7 := { stood := { row := syntaxBeforeUptoRow, standIns := [], harness := (true, "a576027afcbbe4ef8ffa038d5b1d0a2142096b89ca41872ec684e8f8d4f296d2"), looks := true }, kinds := [], alts := [], laidByText := true, laidKinds := [.data, .data, .data, .sentinel, .sentinel, .mapped], laidTests := true, laidLooks := .later }
def SyntaxBeforeUptoCardSaid : Prop := Claim7.holds Tryz.pinned (.plain (OpenSpec.upto syntaxBeforeSpec)) syntaxBeforeUptoCard

/-- THE SECOND FORM's CARD OF 'winchlaw02.SyntaxChecks'. -/
def syntaxChecksUptoCard : Claim7 := { stood := { row := syntaxChecksUptoRow, standIns := [], harness := (true, "a576027afcbbe4ef8ffa038d5b1d0a2142096b89ca41872ec684e8f8d4f296d2"), looks := true }, kinds := [], alts := [], laidByText := true, laidKinds := [.data, .data, .data, .sentinel, .sentinel, .mapped], laidTests := true, laidLooks := .later }
def SyntaxChecksUptoCardSaid : Prop := Claim7.holds Tryz.pinned (.plain (OpenSpec.upto syntaxChecksSpec)) syntaxChecksUptoCard

/-- THE SECOND FORM's CARD OF 'winchlaw02.SyntaxExprs'. -/
def syntaxExprsUptoCard : Claim7 := { stood := { row := syntaxExprsUptoRow, standIns := [], harness := (true, "a576027afcbbe4ef8ffa038d5b1d0a2142096b89ca41872ec684e8f8d4f296d2"), looks := true }, kinds := [], alts := [], laidByText := true, laidKinds := [.data, .data, .data, .data, .data, .sentinel, .sentinel, .mapped], laidTests := true, laidLooks := .later }
def SyntaxExprsUptoCardSaid : Prop := Claim7.holds Tryz.pinned (.plain (OpenSpec.upto syntaxExprsSpec)) syntaxExprsUptoCard

/-- THE SECOND FORM's CARD OF 'winchlaw02.SyntaxWrapped'. -/
def syntaxWrappedUptoCard : Claim7 := { stood := { row := syntaxWrappedUptoRow, standIns := [], harness := (true, "a576027afcbbe4ef8ffa038d5b1d0a2142096b89ca41872ec684e8f8d4f296d2"), looks := true }, kinds := [], alts := [], laidByText := true, laidKinds := [.data, .data, .data, .sentinel, .sentinel, .mapped], laidTests := true, laidLooks := .later }
def SyntaxWrappedUptoCardSaid : Prop := Claim7.holds Tryz.pinned (.plain (OpenSpec.upto syntaxWrappedSpec)) syntaxWrappedUptoCard

/-- THE SECOND FORM's CARD OF 'winchlaw02.SyntaxWell'. -/
def syntaxWellUptoCard : Claim7 := { stood := { row := syntaxWellUptoRow, standIns := [], harness := (true, "a576027afcbbe4ef8ffa038d5b1d0a2142096b89ca41872ec684e8f8d4f296d2"), looks := true }, kinds := [], alts := [], laidByText := true, laidKinds := [.data, .data, .data, .sentinel, .sentinel, .mapped], laidTests := true, laidLooks := .later }
def SyntaxWellUptoCardSaid : Prop := Claim7.holds Tryz.pinned (.plain (OpenSpec.upto syntaxWellSpec)) syntaxWellUptoCard

/-- THE SECOND FORM's CARD OF 'winchlaw02.SyntaxSame'. -/
def syntaxSameUptoCard : Claim7 := { stood := { row := syntaxSameUptoRow, standIns := [], harness := (true, "a576027afcbbe4ef8ffa038d5b1d0a2142096b89ca41872ec684e8f8d4f296d2"), looks := true }, kinds := [], alts := [], laidByText := true, laidKinds := [.data, .data, .data, .sentinel, .sentinel, .mapped], laidTests := true, laidLooks := .later }
def SyntaxSameUptoCardSaid : Prop := Claim7.holds Tryz.pinned (.plain (OpenSpec.upto syntaxSameSpec)) syntaxSameUptoCard

/-- THE SECOND FORM's CARD OF 'winchlaw02.SyntaxJoined'. -/
def syntaxJoinedUptoCard : Claim7 := { stood := { row := syntaxJoinedUptoRow, standIns := [], harness := (true, "a576027afcbbe4ef8ffa038d5b1d0a2142096b89ca41872ec684e8f8d4f296d2"), looks := true }, kinds := [], alts := [], laidByText := true, laidKinds := [.data, .data, .data, .sentinel, .sentinel, .mapped], laidTests := true, laidLooks := .later }
def SyntaxJoinedUptoCardSaid : Prop := Claim7.holds Tryz.pinned (.plain (OpenSpec.upto syntaxJoinedSpec)) syntaxJoinedUptoCard
end Rows
end Go.Proofs.YtkodnhngllfemaaGreatDoor
