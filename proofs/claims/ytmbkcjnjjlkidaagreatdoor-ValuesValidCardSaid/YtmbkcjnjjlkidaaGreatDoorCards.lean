/-
  DERIVED. GIVEN WITH THE SEED: THE CARDS: each row of YtmbkcjnjjlkidaaGreatDoorRows.lean that lists a variable, with what it lists TIED to the program's text (the seventh form; the later family's looks); each row that meets fmt, with fmt's text TOLD by the authors' own Lean function (tested against real Go, not proved from fmt's source: count such statements apart). THE CARD IS WHAT COUNTS. Prove the row's statement (the work); the ties are given (YtmbkcjnjjlkidaaGreatDoorTie.lean); close each card by the builder's one call (the guide's Derived/Test/ToyasCard.lean, 'card_holds'). Laid BY PROGRAM, IN A SANDBOX (cutbox-door.mjs). By AI agents, Wed Nov 11 2026. No macro, syntax, notation, axiom, sorry.
-/
import Derived.Test.YtmbkcjnjjlkidaaGreatDoorRows
import GoSem.ClaimSeven
namespace Go.Proofs.YtmbkcjnjjlkidaaGreatDoor
namespace Rows

/-- THE TIED CARD OF 'refuterlaw10.ValuesOrder'. -/
def valuesOrderCard : Claim7 := { stood := { row := valuesOrderRow, standIns := [], harness := (true, "0f5b615063af0d1c7b2b7904a292601a522746d7c2037bc8e9d94168d7e41aee"), looks := true }, kinds := [], alts := [], laidByText := true, laidKinds := [.data, .data, .data, .sentinel, .sentinel], laidTests := true, laidLooks := .later }
def ValuesOrderCardSaid : Prop := Claim7.holds Tryz.pinned (.plain (OpenSpec.ofChange valuesOrderSpec)) valuesOrderCard

/-- THE TIED CARD OF 'refuterlaw10.ValuesValid'. -/
def valuesValidCard : Claim7 := { stood := { row := valuesValidRow, standIns := [], harness := (true, "0f5b615063af0d1c7b2b7904a292601a522746d7c2037bc8e9d94168d7e41aee"), looks := true }, kinds := [], alts := [], laidByText := true, laidKinds := [.data, .data, .data, .sentinel, .sentinel], laidTests := true, laidLooks := .later }
def ValuesValidCardSaid : Prop := Claim7.holds Tryz.pinned (.plain (OpenSpec.ofChange valuesValidSpec)) valuesValidCard

/-- THE TIED CARD OF 'refuterlaw10.ValuesTexts'. -/
def valuesTextsCard : Claim7 := { stood := { row := valuesTextsRow, standIns := [], harness := (true, "0f5b615063af0d1c7b2b7904a292601a522746d7c2037bc8e9d94168d7e41aee"), looks := true }, kinds := [], alts := [], laidByText := true, laidKinds := [.data, .data, .data, .sentinel, .sentinel], laidTests := true, laidLooks := .later }
def ValuesTextsCardSaid : Prop := Claim7.holds Tryz.pinned (.plain (OpenSpec.ofChange valuesTextsSpec)) valuesTextsCard

/-- THE TIED CARD OF 'refuterlaw10.ValuesParses'. -/
def valuesParsesCard : Claim7 := { stood := { row := valuesParsesRow, standIns := [], harness := (true, "0f5b615063af0d1c7b2b7904a292601a522746d7c2037bc8e9d94168d7e41aee"), looks := true }, kinds := [], alts := [], laidByText := true, laidKinds := [.data, .data, .data, .sentinel, .sentinel], laidTests := true, laidLooks := .later }
def ValuesParsesCardSaid : Prop := Claim7.holds Tryz.pinned (.plain (OpenSpec.ofChange valuesParsesSpec)) valuesParsesCard

/-- THE TIED CARD OF 'refuterlaw10.ValuesSorts'. -/
def valuesSortsCard : Claim7 := { stood := { row := valuesSortsRow, standIns := [], harness := (true, "0f5b615063af0d1c7b2b7904a292601a522746d7c2037bc8e9d94168d7e41aee"), looks := true }, kinds := [], alts := [], laidByText := true, laidKinds := [.data, .data, .data, .sentinel, .sentinel], laidTests := true, laidLooks := .later }
def ValuesSortsCardSaid : Prop := Claim7.holds Tryz.pinned (.plain (OpenSpec.ofChange valuesSortsSpec)) valuesSortsCard

/-- THE TIED CARD OF 'refuterlaw10.ValuesHashes'. -/
def valuesHashesCard : Claim7 := { stood := { row := valuesHashesRow, standIns := [], harness := (true, "0f5b615063af0d1c7b2b7904a292601a522746d7c2037bc8e9d94168d7e41aee"), looks := true }, kinds := [], alts := [], laidByText := true, laidKinds := [.data, .data, .data, .sentinel, .sentinel], laidTests := true, laidLooks := .later }
def ValuesHashesCardSaid : Prop := Claim7.holds Tryz.pinned (.plain (OpenSpec.ofChange valuesHashesSpec)) valuesHashesCard

/-- THE TIED CARD OF 'refuterlaw10.ValuesEncodes'. -/
def valuesEncodesCard : Claim7 := { stood := { row := valuesEncodesRow, standIns := [], harness := (true, "0f5b615063af0d1c7b2b7904a292601a522746d7c2037bc8e9d94168d7e41aee"), looks := true }, kinds := [], alts := [], laidByText := true, laidKinds := [.data, .data, .data, .sentinel, .sentinel], laidTests := true, laidLooks := .later }
def ValuesEncodesCardSaid : Prop := Claim7.holds Tryz.pinned (.plain (OpenSpec.ofChange valuesEncodesSpec)) valuesEncodesCard

/-- THE TIED CARD OF 'refuterlaw10.ValuesDecodes'. -/
def valuesDecodesCard : Claim7 := { stood := { row := valuesDecodesRow, standIns := [], harness := (true, "0f5b615063af0d1c7b2b7904a292601a522746d7c2037bc8e9d94168d7e41aee"), looks := true }, kinds := [], alts := [], laidByText := true, laidKinds := [.data, .data, .data, .sentinel, .sentinel], laidTests := true, laidLooks := .later }
def ValuesDecodesCardSaid : Prop := Claim7.holds Tryz.pinned (.plain (OpenSpec.ofChange valuesDecodesSpec)) valuesDecodesCard

/-- THE SECOND FORM's CARD OF 'refuterlaw10.ValuesOrder'. -/
def valuesOrderUptoCard : Claim7 := { stood := { row := valuesOrderUptoRow, standIns := [], harness := (true, "0f5b615063af0d1c7b2b7904a292601a522746d7c2037bc8e9d94168d7e41aee"), looks := true }, kinds := [], alts := [], laidByText := true, laidKinds := [.data, .data, .data, .sentinel, .sentinel], laidTests := true, laidLooks := .later }
def ValuesOrderUptoCardSaid : Prop := Claim7.holds Tryz.pinned (.plain (OpenSpec.upto valuesOrderSpec)) valuesOrderUptoCard

/-- THE SECOND FORM's CARD OF 'refuterlaw10.ValuesValid'. -/
def valuesValidUptoCard : Claim7 := { stood := { row := valuesValidUptoRow, standIns := [], harness := (true, "0f5b615063af0d1c7b2b7904a292601a522746d7c2037bc8e9d94168d7e41aee"), looks := true }, kinds := [], alts := [], laidByText := true, laidKinds := [.data, .data, .data, .sentinel, .sentinel], laidTests := true, laidLooks := .later }
def ValuesValidUptoCardSaid : Prop := Claim7.holds Tryz.pinned (.plain (OpenSpec.upto valuesValidSpec)) valuesValidUptoCard

/-- THE SECOND FORM's CARD OF 'refuterlaw10.ValuesTexts'. -/
def valuesTextsUptoCard : Claim7 := { stood := { row := valuesTextsUptoRow, standIns := [], harness := (true, "0f5b615063af0d1c7b2b7904a292601a522746d7c2037bc8e9d94168d7e41aee"), looks := true }, kinds := [], alts := [], laidByText := true, laidKinds := [.data, .data, .data, .sentinel, .sentinel], laidTests := true, laidLooks := .later }
def ValuesTextsUptoCardSaid : Prop := Claim7.holds Tryz.pinned (.plain (OpenSpec.upto valuesTextsSpec)) valuesTextsUptoCard

/-- THE SECOND FORM's CARD OF 'refuterlaw10.ValuesParses'. -/
def valuesParsesUptoCard : Claim7 := { stood := { row := valuesParsesUptoRow, standIns := [], harness := (true, "0f5b615063af0d1c7b2b7904a292601a522746d7c2037bc8e9d94168d7e41aee"), looks := true }, kinds := [], alts := [], laidByText := true, laidKinds := [.data, .data, .data, .sentinel, .sentinel], laidTests := true, laidLooks := .later }
def ValuesParsesUptoCardSaid : Prop := Claim7.holds Tryz.pinned (.plain (OpenSpec.upto valuesParsesSpec)) valuesParsesUptoCard

/-- THE SECOND FORM's CARD OF 'refuterlaw10.ValuesSorts'. -/
def valuesSortsUptoCard : Claim7 := { stood := { row := valuesSortsUptoRow, standIns := [], harness := (true, "0f5b615063af0d1c7b2b7904a292601a522746d7c2037bc8e9d94168d7e41aee"), looks := true }, kinds := [], alts := [], laidByText := true, laidKinds := [.data, .data, .data, .sentinel, .sentinel], laidTests := true, laidLooks := .later }
def ValuesSortsUptoCardSaid : Prop := Claim7.holds Tryz.pinned (.plain (OpenSpec.upto valuesSortsSpec)) valuesSortsUptoCard

/-- THE SECOND FORM's CARD OF 'refuterlaw10.ValuesHashes'. -/
def valuesHashesUptoCard : Claim7 := { stood := { row := valuesHashesUptoRow, standIns := [], harness := (true, "0f5b615063af0d1c7b2b7904a292601a522746d7c2037bc8e9d94168d7e41aee"), looks := true }, kinds := [], alts := [], laidByText := true, laidKinds := [.data, .data, .data, .sentinel, .sentinel], laidTests := true, laidLooks := .later }
def ValuesHashesUptoCardSaid : Prop := Claim7.holds Tryz.pinned (.plain (OpenSpec.upto valuesHashesSpec)) valuesHashesUptoCard

/-- THE SECOND FORM's CARD OF 'refuterlaw10.ValuesEncodes'. -/
def valuesEncodesUptoCard : Claim7 := { stood := { row := valuesEncodesUptoRow, standIns := [], harness := (true, "0f5b615063af0d1c7b2b7904a292601a522746d7c2037bc8e9d94168d7e41aee"), looks := true }, kinds := [], alts := [], laidByText := true, laidKinds := [.data, .data, .data, .sentinel, .sentinel], laidTests := true, laidLooks := .later }
def ValuesEncodesUptoCardSaid : Prop := Claim7.holds Tryz.pinned (.plain (OpenSpec.upto valuesEncodesSpec)) valuesEncodesUptoCard

/-- THE SECOND FORM's CARD OF 'refuterlaw10.ValuesDecodes'. -/
def valuesDecodesUptoCard : Claim7 := { stood := { row := valuesDecodesUptoRow, standIns := [], harness := (true, "0f5b615063af0d1c7b2b7904a292601a522746d7c2037bc8e9d94168d7e41aee"), looks := true }, kinds := [], alts := [], laidByText := true, laidKinds := [.data, .data, .data, .sentinel, .sentinel], laidTests := true, laidLooks := .later }
def ValuesDecodesUptoCardSaid : Prop := Claim7.holds Tryz.pinned (.plain (OpenSpec.upto valuesDecodesSpec)) valuesDecodesUptoCard
end Rows
end Go.Proofs.YtmbkcjnjjlkidaaGreatDoor
