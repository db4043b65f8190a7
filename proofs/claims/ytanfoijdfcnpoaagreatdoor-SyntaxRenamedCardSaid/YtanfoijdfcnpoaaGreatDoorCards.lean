/-
  DERIVED. GIVEN WITH THE SEED: THE CARDS: each row of YtanfoijdfcnpoaaGreatDoorRows.lean that lists a variable, with what it lists TIED to the program's text (the seventh form; the later family's looks); each row that meets fmt, with fmt's text TOLD by the authors' own Lean function (tested against real Go, not proved from fmt's source: count such statements apart). THE CARD IS WHAT COUNTS. Prove the row's statement (the work); the ties are given (YtanfoijdfcnpoaaGreatDoorTie.lean); close each card by the builder's one call (the guide's Derived/Test/ToyasCard.lean, 'card_holds'). Laid BY PROGRAM, IN A SANDBOX (cutbox-door.mjs). By AI agents, Wed Nov 11 2026. No macro, syntax, notation, axiom, sorry.
-/
import Derived.Test.YtanfoijdfcnpoaaGreatDoorRows
import GoSem.ClaimSeven
namespace Go.Proofs.YtanfoijdfcnpoaaGreatDoor
namespace Rows

/-- THE TIED CARD OF 'trusslaw02.SyntaxExprs'. -/
def syntaxExprsCard : Claim7 := { stood := { row := syntaxExprsRow, standIns := [], harness := (true, "c74fadada6852c5abb66b27d7433c133580b4dda3f91bb28eadd26636f13c909"), looks := true }, kinds := [], alts := [], laidByText := true, laidKinds := [.data, .data, .data, .sentinel, .sentinel], laidTests := true, laidLooks := .later }
def SyntaxExprsCardSaid : Prop := Claim7.holds Tryz.pinned (.plain (OpenSpec.ofChange syntaxExprsSpec)) syntaxExprsCard

/-- THE TIED CARD OF 'trusslaw02.SyntaxRenames'. -/
def syntaxRenamesCard : Claim7 := { stood := { row := syntaxRenamesRow, standIns := [], harness := (true, "c74fadada6852c5abb66b27d7433c133580b4dda3f91bb28eadd26636f13c909"), looks := true }, kinds := [], alts := [], laidByText := true, laidKinds := [.data, .data, .data, .sentinel, .sentinel], laidTests := true, laidLooks := .later }
def SyntaxRenamesCardSaid : Prop := Claim7.holds Tryz.pinned (.plain (OpenSpec.ofChange syntaxRenamesSpec)) syntaxRenamesCard

/-- THE TIED CARD OF 'trusslaw02.SyntaxRenamed'. -/
def syntaxRenamedCard : Claim7 := { stood := { row := syntaxRenamedRow, standIns := [], harness := (true, "c74fadada6852c5abb66b27d7433c133580b4dda3f91bb28eadd26636f13c909"), looks := true }, kinds := [], alts := [], laidByText := true, laidKinds := [.data, .data, .data, .sentinel, .sentinel], laidTests := true, laidLooks := .later }
def SyntaxRenamedCardSaid : Prop := Claim7.holds Tryz.pinned (.plain (OpenSpec.ofChange syntaxRenamedSpec)) syntaxRenamedCard

/-- THE TIED CARD OF 'trusslaw02.SyntaxItems'. -/
def syntaxItemsCard : Claim7 := { stood := { row := syntaxItemsRow, standIns := [], harness := (true, "c74fadada6852c5abb66b27d7433c133580b4dda3f91bb28eadd26636f13c909"), looks := true }, kinds := [], alts := [], laidByText := true, laidKinds := [.data, .data, .data, .sentinel, .sentinel], laidTests := true, laidLooks := .later }
def SyntaxItemsCardSaid : Prop := Claim7.holds Tryz.pinned (.plain (OpenSpec.ofChange syntaxItemsSpec)) syntaxItemsCard

/-- THE TIED CARD OF 'trusslaw02.SyntaxItemTexts'. -/
def syntaxItemTextsCard : Claim7 := { stood := { row := syntaxItemTextsRow, standIns := [], harness := (true, "c74fadada6852c5abb66b27d7433c133580b4dda3f91bb28eadd26636f13c909"), looks := true }, kinds := [], alts := [], laidByText := true, laidKinds := [.data, .data, .data, .sentinel, .sentinel], laidTests := true, laidLooks := .later }
def SyntaxItemTextsCardSaid : Prop := Claim7.holds Tryz.pinned (.plain (OpenSpec.ofChange syntaxItemTextsSpec)) syntaxItemTextsCard

/-- THE SECOND FORM's CARD OF 'trusslaw02.SyntaxExprs'. -/
def syntaxExprsUptoCard : Claim7 := { stood := { row := syntaxExprsUptoRow, standIns := [], harness := (true, "c74fadada6852c5abb66b27d7433c133580b4dda3f91bb28eadd26636f13c909"), looks := true }, kinds := [], alts := [], laidByText := true, laidKinds := [.data, .data, .data, .sentinel, .sentinel], laidTests := true, laidLooks := .later }
def SyntaxExprsUptoCardSaid : Prop := Claim7.holds Tryz.pinned (.plain (OpenSpec.upto syntaxExprsSpec)) syntaxExprsUptoCard

/-- THE SECOND FORM's CARD OF 'trusslaw02.SyntaxRenames'. -/
def syntaxRenamesUptoCard : Claim7 := { stood := { row := syntaxRenamesUptoRow, standIns := [], harness := (true, "c74fadada6852c5abb66b27d7433c133580b4dda3f91bb28eadd26636f13c909"), looks := true }, kinds := [], alts := [], laidByText := true, laidKinds := [.data, .data, .data, .sentinel, .sentinel], laidTests := true, laidLooks := .later }
def SyntaxRenamesUptoCardSaid : Prop := Claim7.holds Tryz.pinned (.plain (OpenSpec.upto syntaxRenamesSpec)) syntaxRenamesUptoCard

/-- THE SECOND FORM's CARD OF 'trusslaw02.SyntaxRenamed'. -/
def syntaxRenamedUptoCard : Claim7 := { stood := { row := syntaxRenamedUptoRow, standIns := [], harness := (true, "c74fadada6852c5abb66b27d7433c133580b4dda3f91bb28eadd26636f13c909"), looks := true }, kinds := [], alts := [], laidByText := true, laidKinds := [.data, .data, .data, .sentinel, .sentinel], laidTests := true, laidLooks := .later }
def SyntaxRenamedUptoCardSaid : Prop := Claim7.holds Tryz.pinned (.plain (OpenSpec.upto syntaxRenamedSpec)) syntaxRenamedUptoCard

/-- THE SECOND FORM's CARD OF 'trusslaw02.SyntaxItems'. -/
def syntaxItemsUptoCard : Claim7 := { stood := { row := syntaxItemsUptoRow, standIns := [], harness := (true, "c74fadada6852c5abb66b27d7433c133580b4dda3f91bb28eadd26636f13c909"), looks := true }, kinds := [], alts := [], laidByText := true, laidKinds := [.data, .data, .data, .sentinel, .sentinel], laidTests := true, laidLooks := .later }
def SyntaxItemsUptoCardSaid : Prop := Claim7.holds Tryz.pinned (.plain (OpenSpec.upto syntaxItemsSpec)) syntaxItemsUptoCard

/-- THE SECOND FORM's CARD OF 'trusslaw02.SyntaxItemTexts'. -/
def syntaxItemTextsUptoCard : Claim7 := { stood := { row := syntaxItemTextsUptoRow, standIns := [], harness := (true, "c74fadada6852c5abb66b27d7433c133580b4dda3f91bb28eadd26636f13c909"), looks := true }, kinds := [], alts := [], laidByText := true, laidKinds := [.data, .data, .data, .sentinel, .sentinel], laidTests := true, laidLooks := .later }
def SyntaxItemTextsUptoCardSaid : Prop := Claim7.holds Tryz.pinned (.plain (OpenSpec.upto syntaxItemTextsSpec)) syntaxItemTextsUptoCard
end Rows
end Go.Proofs.YtanfoijdfcnpoaaGreatDoor
