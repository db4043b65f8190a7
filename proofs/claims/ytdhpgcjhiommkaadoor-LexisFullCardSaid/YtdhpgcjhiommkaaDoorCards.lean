/-
  DERIVED. GIVEN WITH THE SEED: THE CARDS: each row of YtdhpgcjhiommkaaDoorRows.lean that lists a variable, with what it lists TIED to the program's text (the seventh form; the later family's looks); each row that meets fmt, with fmt's text TOLD by the authors' own Lean function (tested against real Go, not proved from fmt's source: count such statements apart). THE CARD IS WHAT COUNTS. Prove the row's statement (the work); the ties are given (YtdhpgcjhiommkaaDoorTie.lean); close each card by the builder's one call (the guide's Derived/Test/ToyasCard.lean, 'card_holds'). Laid BY PROGRAM, IN A SANDBOX (cutbox-door.mjs). By AI agents, Wed Nov 11 2026. No macro, syntax, notation, axiom, sorry.
-/
import Derived.Test.YtdhpgcjhiommkaaDoorRows
import GoSem.ClaimSeven
namespace Go.Proofs.YtdhpgcjhiommkaaDoor
namespace Rows

/-- THE TIED CARD OF 'trusslaw01.LexisTokens'. -/
def lexisTokensCard : Claim7 := { stood := { row := lexisTokensRow, standIns := [], harness := (true, "ca9923f5d9fd0e3f651ca9a53fdd26d32858761c58f202b646c61cf3254ef90d"), looks := true }, kinds := [], alts := [], laidByText := true, laidKinds := [.data, .data, .data, .sentinel, .sentinel], laidTests := true, laidLooks := .later }
def LexisTokensCardSaid : Prop := Claim7.holds Tryd.pinned (.plain (OpenSpec.ofChange lexisTokensSpec)) lexisTokensCard

/-- THE TIED CARD OF 'trusslaw01.LexisNames'. -/
def lexisNamesCard : Claim7 := { stood := { row := lexisNamesRow, standIns := [], harness := (true, "ca9923f5d9fd0e3f651ca9a53fdd26d32858761c58f202b646c61cf3254ef90d"), looks := true }, kinds := [], alts := [], laidByText := true, laidKinds := [.data, .data, .data, .sentinel, .sentinel], laidTests := true, laidLooks := .later }
def LexisNamesCardSaid : Prop := Claim7.holds Tryd.pinned (.plain (OpenSpec.ofChange lexisNamesSpec)) lexisNamesCard

/-- THE TIED CARD OF 'trusslaw01.LexisStands'. -/
def lexisStandsCard : Claim7 := { stood := { row := lexisStandsRow, standIns := [], harness := (true, "ca9923f5d9fd0e3f651ca9a53fdd26d32858761c58f202b646c61cf3254ef90d"), looks := true }, kinds := [], alts := [], laidByText := true, laidKinds := [.data, .data, .data, .sentinel, .sentinel], laidTests := true, laidLooks := .later }
def LexisStandsCardSaid : Prop := Claim7.holds Tryd.pinned (.plain (OpenSpec.ofChange lexisStandsSpec)) lexisStandsCard

/-- THE TIED CARD OF 'trusslaw01.LexisBlank'. -/
def lexisBlankCard : Claim7 := { stood := { row := lexisBlankRow, standIns := [], harness := (true, "ca9923f5d9fd0e3f651ca9a53fdd26d32858761c58f202b646c61cf3254ef90d"), looks := true }, kinds := [], alts := [], laidByText := true, laidKinds := [.data, .data, .data, .sentinel, .sentinel], laidTests := true, laidLooks := .later }
def LexisBlankCardSaid : Prop := Claim7.holds Tryd.pinned (.plain (OpenSpec.ofChange lexisBlankSpec)) lexisBlankCard

/-- THE TIED CARD OF 'trusslaw01.LexisFull'. -/
def lexisFullCard : Claim7 := { stood := { row := lexisFullRow, standIns := [], harness := (true, "ca9923f5d9fd0e3f651ca9a53fdd26d32858761c58f202b646c61cf3254ef90d"), looks := true }, kinds := [], alts := [], laidByText := true, laidKinds := [.data, .data, .data, .sentinel, .sentinel], laidTests := true, laidLooks := .later }
def LexisFullCardSaid : Prop := Claim7.holds Tryd.pinned (.plain (OpenSpec.ofChange lexisFullSpec)) lexisFullCard

/-- THE TIED CARD OF 'trusslaw01.LexisJoins'. -/
def lexisJoinsCard : Claim7 := { stood := { row := lexisJoinsRow, standIns := [], harness := (true, "ca9923f5d9fd0e3f651ca9a53fdd26d32858761c58f202b646c61cf3254ef90d"), looks := true }, kinds := [], alts := [], laidByText := true, laidKinds := [.data, .data, .data, .sentinel, .sentinel], laidTests := true, laidLooks := .later }
def LexisJoinsCardSaid : Prop := Claim7.holds Tryd.pinned (.plain (OpenSpec.ofChange lexisJoinsSpec)) lexisJoinsCard

/-- THE TIED CARD OF 'trusslaw01.LexisPlaces'. -/
def lexisPlacesCard : Claim7 := { stood := { row := lexisPlacesRow, standIns := [], harness := (true, "ca9923f5d9fd0e3f651ca9a53fdd26d32858761c58f202b646c61cf3254ef90d"), looks := true }, kinds := [], alts := [], laidByText := true, laidKinds := [.data, .data, .data, .sentinel, .sentinel], laidTests := true, laidLooks := .later }
def LexisPlacesCardSaid : Prop := Claim7.holds Tryd.pinned (.plain (OpenSpec.ofChange lexisPlacesSpec)) lexisPlacesCard

/-- THE TIED CARD OF 'trusslaw01.LexisWalks'. -/
def lexisWalksCard : Claim7 := { stood := { row := lexisWalksRow, standIns := [], harness := (true, "ca9923f5d9fd0e3f651ca9a53fdd26d32858761c58f202b646c61cf3254ef90d"), looks := true }, kinds := [], alts := [], laidByText := true, laidKinds := [.data, .data, .data, .sentinel, .sentinel], laidTests := true, laidLooks := .later }
def LexisWalksCardSaid : Prop := Claim7.holds Tryd.pinned (.plain (OpenSpec.ofChange lexisWalksSpec)) lexisWalksCard

/-- THE SECOND FORM's CARD OF 'trusslaw01.LexisTokens'. -/
def lexisTokensUptoCard : Claim7 := { stood := { row := lexisTokensUptoRow, standIns := [], harness := (true, "ca9923f5d9fd0e3f651ca9a53fdd26d32858761c58f202b646c61cf3254ef90d"), looks := true }, kinds := [], alts := [], laidByText := true, laidKinds := [.data, .data, .data, .sentinel, .sentinel], laidTests := true, laidLooks := .later }
def LexisTokensUptoCardSaid : Prop := Claim7.holds Tryd.pinned (.plain (OpenSpec.upto lexisTokensSpec)) lexisTokensUptoCard

/-- THE SECOND FORM's CARD OF 'trusslaw01.LexisNames'. -/
def lexisNamesUptoCard : Claim7 := { stood := { row := lexisNamesUptoRow, standIns := [], harness := (true, "ca9923f5d9fd0e3f651ca9a53fdd26d32858761c58f202b646c61cf3254ef90d"), looks := true }, kinds := [], alts := [], laidByText := true, laidKinds := [.data, .data, .data, .sentinel, .sentinel], laidTests := true, laidLooks := .later }
def LexisNamesUptoCardSaid : Prop := Claim7.holds Tryd.pinned (.plain (OpenSpec.upto lexisNamesSpec)) lexisNamesUptoCard

/-- THE SECOND FORM's CARD OF 'trusslaw01.LexisStands'. -/
def lexisStandsUptoCard : Claim7 := { stood := { row := lexisStandsUptoRow, standIns := [], harness := (true, "ca9923f5d9fd0e3f651ca9a53fdd26d32858761c58f202b646c61cf3254ef90d"), looks := true }, kinds := [], alts := [], laidByText := true, laidKinds := [.data, .data, .data, .sentinel, .sentinel], laidTests := true, laidLooks := .later }
def LexisStandsUptoCardSaid : Prop := Claim7.holds Tryd.pinned (.plain (OpenSpec.upto lexisStandsSpec)) lexisStandsUptoCard

/-- THE SECOND FORM's CARD OF 'trusslaw01.LexisBlank'. -/
def lexisBlankUptoCard : Claim7 := { stood := { row := lexisBlankUptoRow, standIns := [], harness := (true, "ca9923f5d9fd0e3f651ca9a53fdd26d32858761c58f202b646c61cf3254ef90d"), looks := true }, kinds := [], alts := [], laidByText := true, laidKinds := [.data, .data, .data, .sentinel, .sentinel], laidTests := true, laidLooks := .later }
def LexisBlankUptoCardSaid : Prop := Claim7.holds Tryd.pinned (.plain (OpenSpec.upto lexisBlankSpec)) lexisBlankUptoCard

/-- THE SECOND FORM's CARD OF 'trusslaw01.LexisFull'. -/
def lexisFullUptoCard : Claim7 := { stood := { row := lexisFullUptoRow, standIns := [], harness := (true, "ca9923f5d9fd0e3f651ca9a53fdd26d32858761c58f202b646c61cf3254ef90d"), looks := true }, kinds := [], alts := [], laidByText := true, laidKinds := [.data, .data, .data, .sentinel, .sentinel], laidTests := true, laidLooks := .later }
def LexisFullUptoCardSaid : Prop := Claim7.holds Tryd.pinned (.plain (OpenSpec.upto lexisFullSpec)) lexisFullUptoCard

/-- THE SECOND FORM's CARD OF 'trusslaw01.LexisJoins'. -/
def lexisJoinsUptoCard : Claim7 := { stood := { row := lexisJoinsUptoRow, standIns := [], harness := (true, "ca9923f5d9fd0e3f651ca9a53fdd26d32858761c58f202b646c61cf3254ef90d"), looks := true }, kinds := [], alts := [], laidByText := true, laidKinds := [.data, .data, .data, .sentinel, .sentinel], laidTests := true, laidLooks := .later }
def LexisJoinsUptoCardSaid : Prop := Claim7.holds Tryd.pinned (.plain (OpenSpec.upto lexisJoinsSpec)) lexisJoinsUptoCard

/-- THE SECOND FORM's CARD OF 'trusslaw01.LexisPlaces'. -/
def lexisPlacesUptoCard : Claim7 := { stood := { row := lexisPlacesUptoRow, standIns := [], harness := (true, "ca9923f5d9fd0e3f651ca9a53fdd26d32858761c58f202b646c61cf3254ef90d"), looks := true }, kinds := [], alts := [], laidByText := true, laidKinds := [.data, .data, .data, .sentinel, .sentinel], laidTests := true, laidLooks := .later }
def LexisPlacesUptoCardSaid : Prop := Claim7.holds Tryd.pinned (.plain (OpenSpec.upto lexisPlacesSpec)) lexisPlacesUptoCard

/-- THE SECOND FORM's CARD OF 'trusslaw01.LexisWalks'. -/
def lexisWalksUptoCard : Claim7 := { stood := { row := lexisWalksUptoRow, standIns := [], harness := (true, "ca9923f5d9fd0e3f651ca9a53fdd26d32858761c58f202b646c61cf3254ef90d"), looks := true }, kinds := [], alts := [], laidByText := true, laidKinds := [.data, .data, .data, .sentinel, .sentinel], laidTests := true, laidLooks := .later }
def LexisWalksUptoCardSaid : Prop := Claim7.holds Tryd.pinned (.plain (OpenSpec.upto lexisWalksSpec)) lexisWalksUptoCard
end Rows
end Go.Proofs.YtdhpgcjhiommkaaDoor
