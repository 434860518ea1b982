/-
  DERIVED. GIVEN WITH THE SEED: THE CARDS: each row of YtaknpdhmhifpeaaGreatDoorRows.lean that lists a variable, with what it lists TIED to the program's text (the seventh form; the later family's looks); each row that meets fmt, with fmt's text TOLD by the authors' own Lean function (tested against real Go, not proved from fmt's source: count such statements apart). THE CARD IS WHAT COUNTS. Prove the row's statement (the work); the ties are given (YtaknpdhmhifpeaaGreatDoorTie.lean); close each card by the builder's one call (the guide's Derived/Test/ToyasCard.lean, 'card_holds'). Laid BY PROGRAM, IN A SANDBOX (cutbox-door.mjs). By AI agents, Wed Nov 11 2026. No macro, syntax, notation, axiom, sorry.
-/
import Derived.Test.YtaknpdhmhifpeaaGreatDoorRows
import GoSem.ClaimSeven
namespace Go.Proofs.YtaknpdhmhifpeaaGreatDoor
namespace Rows

/-- THE TIED CARD OF 'winchlaw03.PrintTexts'. -/
def printTextsCard : Claim7 := { stood := { row := printTextsRow, standIns := [], harness := (true, "882d18f453ad428fb37a0139beb65ce1d68df4e7dbe2ee20f209f9460b5658df"), looks := false }, kinds := [], alts := [], laidByText := true, laidKinds := [.data, .data, .data, .data, .data, .data, .mapped, .pinned], laidTests := true, laidLooks := .later }
def PrintTextsCardSaid : Prop := Claim7.holds Tryz.pinned (.plain (OpenSpec.ofChange printTextsSpec)) printTextsCard

/-- THE TIED CARD OF 'winchlaw03.PrintExprs'. -/
def printExprsCard : Claim7 := { stood := { row := printExprsRow, standIns := [], harness := (true, "882d18f453ad428fb37a0139beb65ce1d68df4e7dbe2ee20f209f9460b5658df"), looks := false }, kinds := [], alts := [], laidByText := true, laidKinds := [.data, .data, .data, .data, .data, .data, .mapped, .pinned], laidTests := true, laidLooks := .later }
def PrintExprsCardSaid : Prop := Claim7.holds Tryz.pinned (.plain (OpenSpec.ofChange printExprsSpec)) printExprsCard

/-- THE TIED CARD OF 'winchlaw03.PrintConsts'. -/
def printConstsCard : Claim7 := { stood := { row := printConstsRow, standIns := [], harness := (true, "882d18f453ad428fb37a0139beb65ce1d68df4e7dbe2ee20f209f9460b5658df"), looks := false }, kinds := [], alts := [], laidByText := true, laidKinds := [.data, .data, .data, .data, .mapped, .pinned], laidTests := true, laidLooks := .later }
def PrintConstsCardSaid : Prop := Claim7.holds Tryz.pinned (.plain (OpenSpec.ofChange printConstsSpec)) printConstsCard

/-- THE SECOND FORM's CARD OF 'winchlaw03.PrintTexts'. -/
def printTextsUptoCard : Claim7 := { stood := { row := printTextsUptoRow, standIns := [], harness := (true, "882d18f453ad428fb37a0139beb65ce1d68df4e7dbe2ee20f209f9460b5658df"), looks := false }, kinds := [], alts := [], laidByText := true, laidKinds := [.data, .data, .data, .data, .data, .data, .mapped, .pinned], laidTests := true, laidLooks := .later }
def PrintTextsUptoCardSaid : Prop := Claim7.holds Tryz.pinned (.plain (OpenSpec.upto printTextsSpec)) printTextsUptoCard

/-- THE SECOND FORM's CARD OF 'winchlaw03.PrintExprs'. -/
def printExprsUptoCard : Claim7 := { stood := { row := printExprsUptoRow, standIns := [], harness := (true, "882d18f453ad428fb37a0139beb65ce1d68df4e7dbe2ee20f209f9460b5658df"), looks := false }, kinds := [], alts := [], laidByText := true, laidKinds := [.data, .data, .data, .data, .data, .data, .mapped, .pinned], laidTests := true, laidLooks := .later }
def PrintExprsUptoCardSaid : Prop := Claim7.holds Tryz.pinned (.plain (OpenSpec.upto printExprsSpec)) printExprsUptoCard

/-- THE SECOND FORM's CARD OF 'winchlaw03.PrintConsts'. -/
def printConstsUptoCard : Claim7 := { stood := { row := printConstsUptoRow, standIns := [], harness := (true, "882d18f453ad428fb37a0139beb65ce1d68df4e7dbe2ee20f209f9460b5658df"), looks := false }, kinds := [], alts := [], laidByText := true, laidKinds := [.data, .data, .data, .data, .mapped, .pinned], laidTests := true, laidLooks := .later }
def PrintConstsUptoCardSaid : Prop := Claim7.holds Tryz.pinned (.plain (OpenSpec.upto printConstsSpec)) printConstsUptoCard
end Rows
end Go.Proofs.YtaknpdhmhifpeaaGreatDoor
