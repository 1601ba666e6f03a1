/-
  DERIVED. GIVEN WITH THE SEED: THE CARDS: each row of YtnhdcdhpfgdphaaDoorRows.lean that lists a variable, with what it lists TIED to the program's text (the seventh form; the later family's looks); each row that meets fmt, with fmt's text TOLD by the authors' own Lean function (tested against real Go, not proved from fmt's source: count such statements apart). THE CARD IS WHAT COUNTS. Prove the row's statement (the work); the ties are given (YtnhdcdhpfgdphaaDoorTie.lean); close each card by the builder's one call (the guide's Derived/Test/ToyasCard.lean, 'card_holds'). Laid BY PROGRAM, IN A SANDBOX (cutbox-door.mjs). By AI agents, Wed Nov 11 2026. No macro, syntax, notation, axiom, sorry.
-/
import Derived.Test.YtnhdcdhpfgdphaaDoorRows
import GoSem.ClaimSeven
namespace Go.Proofs.YtnhdcdhpfgdphaaDoor
namespace Rows

/-- THE TIED CARD OF 'huerlaw02.TurnOwners'. -/
def turnOwnersCard : Claim7 := { stood := { row := turnOwnersRow, standIns := [], harness := (true, "b725dd78a201d2ffe3af5a79ffbbe972087fb848ac668f018f954fb309be5c94"), looks := false }, kinds := [], alts := [], laidByText := true, laidKinds := [.data, .funcs], laidTests := true, laidLooks := .later }
def TurnOwnersCardSaid : Prop := Claim7.holds Tryd.pinned (.plain (OpenSpec.ofChange turnOwnersSpec)) turnOwnersCard

/-- THE TIED CARD OF 'huerlaw02.TurnFairs'. -/
def turnFairsCard : Claim7 := { stood := { row := turnFairsRow, standIns := [], harness := (true, "b725dd78a201d2ffe3af5a79ffbbe972087fb848ac668f018f954fb309be5c94"), looks := false }, kinds := [], alts := [], laidByText := true, laidKinds := [.data, .funcs], laidTests := true, laidLooks := .later }
def TurnFairsCardSaid : Prop := Claim7.holds Tryd.pinned (.plain (OpenSpec.ofChange turnFairsSpec)) turnFairsCard

/-- THE TIED CARD OF 'huerlaw02.TurnWrongs'. -/
def turnWrongsCard : Claim7 := { stood := { row := turnWrongsRow, standIns := [], harness := (true, "b725dd78a201d2ffe3af5a79ffbbe972087fb848ac668f018f954fb309be5c94"), looks := false }, kinds := [], alts := [], laidByText := true, laidKinds := [.data, .funcs], laidTests := true, laidLooks := .later }
def TurnWrongsCardSaid : Prop := Claim7.holds Tryd.pinned (.plain (OpenSpec.ofChange turnWrongsSpec)) turnWrongsCard

/-- THE TIED CARD OF 'huerlaw02.TurnTrue'. -/
def turnTrueCard : Claim7 := { stood := { row := turnTrueRow, standIns := [], harness := (true, "b725dd78a201d2ffe3af5a79ffbbe972087fb848ac668f018f954fb309be5c94"), looks := false }, kinds := [], alts := [], laidByText := true, laidKinds := [.data, .funcs], laidTests := true, laidLooks := .later }
def TurnTrueCardSaid : Prop := Claim7.holds Tryd.pinned (.plain (OpenSpec.ofChange turnTrueSpec)) turnTrueCard

/-- THE TIED CARD OF 'huerlaw02.TurnEnds'. -/
def turnEndsCard : Claim7 := { stood := { row := turnEndsRow, standIns := [], harness := (true, "b725dd78a201d2ffe3af5a79ffbbe972087fb848ac668f018f954fb309be5c94"), looks := false }, kinds := [], alts := [], laidByText := true, laidKinds := [.data, .funcs], laidTests := true, laidLooks := .later }
def TurnEndsCardSaid : Prop := Claim7.holds Tryd.pinned (.plain (OpenSpec.ofChange turnEndsSpec)) turnEndsCard

/-- THE TIED CARD OF 'huerlaw02.TurnHangs'. -/
def turnHangsCard : Claim7 := { stood := { row := turnHangsRow, standIns := [], harness := (true, "b725dd78a201d2ffe3af5a79ffbbe972087fb848ac668f018f954fb309be5c94"), looks := false }, kinds := [], alts := [], laidByText := true, laidKinds := [.data, .funcs], laidTests := true, laidLooks := .later }
def TurnHangsCardSaid : Prop := Claim7.holds Tryd.pinned (.plain (OpenSpec.ofChange turnHangsSpec)) turnHangsCard

/-- THE TIED CARD OF 'huerlaw02.TurnWrong'. -/
def turnWrongCard : Claim7 := { stood := { row := turnWrongRow, standIns := [], harness := (true, "b725dd78a201d2ffe3af5a79ffbbe972087fb848ac668f018f954fb309be5c94"), looks := false }, kinds := [], alts := [], laidByText := true, laidKinds := [.data, .funcs], laidTests := true, laidLooks := .later }
def TurnWrongCardSaid : Prop := Claim7.holds Tryd.pinned (.plain (OpenSpec.ofChange turnWrongSpec)) turnWrongCard

/-- THE TIED CARD OF 'huerlaw02.TurnKnows'. -/
def turnKnowsCard : Claim7 := { stood := { row := turnKnowsRow, standIns := [], harness := (true, "b725dd78a201d2ffe3af5a79ffbbe972087fb848ac668f018f954fb309be5c94"), looks := false }, kinds := [], alts := [], laidByText := true, laidKinds := [.data, .funcs], laidTests := true, laidLooks := .later }
def TurnKnowsCardSaid : Prop := Claim7.holds Tryd.pinned (.plain (OpenSpec.ofChange turnKnowsSpec)) turnKnowsCard

/-- THE TIED CARD OF 'huerlaw02.TurnSure'. -/
def turnSureCard : Claim7 := { stood := { row := turnSureRow, standIns := [], harness := (true, "b725dd78a201d2ffe3af5a79ffbbe972087fb848ac668f018f954fb309be5c94"), looks := false }, kinds := [], alts := [], laidByText := true, laidKinds := [.data, .funcs], laidTests := true, laidLooks := .later }
def TurnSureCardSaid : Prop := Claim7.holds Tryd.pinned (.plain (OpenSpec.ofChange turnSureSpec)) turnSureCard

/-- THE TIED CARD OF 'huerlaw02.TurnFirst'. -/
def turnFirstCard : Claim7 := { stood := { row := turnFirstRow, standIns := [], harness := (true, "b725dd78a201d2ffe3af5a79ffbbe972087fb848ac668f018f954fb309be5c94"), looks := false }, kinds := [], alts := [], laidByText := true, laidKinds := [.data, .funcs], laidTests := true, laidLooks := .later }
def TurnFirstCardSaid : Prop := Claim7.holds Tryd.pinned (.plain (OpenSpec.ofChange turnFirstSpec)) turnFirstCard

/-- THE TIED CARD OF 'huerlaw02.TurnLearn'. -/
def turnLearnCard : Claim7 := { stood := { row := turnLearnRow, standIns := [], harness := (true, "b725dd78a201d2ffe3af5a79ffbbe972087fb848ac668f018f954fb309be5c94"), looks := false }, kinds := [], alts := [], laidByText := true, laidKinds := [.data, .funcs], laidTests := true, laidLooks := .later }
def TurnLearnCardSaid : Prop := Claim7.holds Tryd.pinned (.plain (OpenSpec.ofChange turnLearnSpec)) turnLearnCard

/-- THE TIED CARD OF 'huerlaw02.TurnKnown'. -/
def turnKnownCard : Claim7 := { stood := { row := turnKnownRow, standIns := [], harness := (true, "b725dd78a201d2ffe3af5a79ffbbe972087fb848ac668f018f954fb309be5c94"), looks := false }, kinds := [], alts := [], laidByText := true, laidKinds := [.data, .funcs], laidTests := true, laidLooks := .later }
def TurnKnownCardSaid : Prop := Claim7.holds Tryd.pinned (.plain (OpenSpec.ofChange turnKnownSpec)) turnKnownCard

/-- THE SECOND FORM's CARD OF 'huerlaw02.TurnOwners'. -/
def turnOwnersUptoCard : Claim7 := { stood := { row := turnOwnersUptoRow, standIns := [], harness := (true, "b725dd78a201d2ffe3af5a79ffbbe972087fb848ac668f018f954fb309be5c94"), looks := false }, kinds := [], alts := [], laidByText := true, laidKinds := [.data, .funcs], laidTests := true, laidLooks := .later }
def TurnOwnersUptoCardSaid : Prop := Claim7.holds Tryd.pinned (.plain (OpenSpec.upto turnOwnersSpec)) turnOwnersUptoCard

/-- THE SECOND FORM's CARD OF 'huerlaw02.TurnFairs'. -/
def turnFairsUptoCard : Claim7 := { stood := { row := turnFairsUptoRow, standIns := [], harness := (true, "b725dd78a201d2ffe3af5a79ffbbe972087fb848ac668f018f954fb309be5c94"), looks := false }, kinds := [], alts := [], laidByText := true, laidKinds := [.data, .funcs], laidTests := true, laidLooks := .later }
def TurnFairsUptoCardSaid : Prop := Claim7.holds Tryd.pinned (.plain (OpenSpec.upto turnFairsSpec)) turnFairsUptoCard

/-- THE SECOND FORM's CARD OF 'huerlaw02.TurnWrongs'. -/
def turnWrongsUptoCard : Claim7 := { stood := { row := turnWrongsUptoRow, standIns := [], harness := (true, "b725dd78a201d2ffe3af5a79ffbbe972087fb848ac668f018f954fb309be5c94"), looks := false }, kinds := [], alts := [], laidByText := true, laidKinds := [.data, .funcs], laidTests := true, laidLooks := .later }
def TurnWrongsUptoCardSaid : Prop := Claim7.holds Tryd.pinned (.plain (OpenSpec.upto turnWrongsSpec)) turnWrongsUptoCard

/-- THE SECOND FORM's CARD OF 'huerlaw02.TurnTrue'. -/
def turnTrueUptoCard : Claim7 := { stood := { row := turnTrueUptoRow, standIns := [], harness := (true, "b725dd78a201d2ffe3af5a79ffbbe972087fb848ac668f018f954fb309be5c94"), looks := false }, kinds := [], alts := [], laidByText := true, laidKinds := [.data, .funcs], laidTests := true, laidLooks := .later }
def TurnTrueUptoCardSaid : Prop := Claim7.holds Tryd.pinned (.plain (OpenSpec.upto turnTrueSpec)) turnTrueUptoCard

/-- THE SECOND FORM's CARD OF 'huerlaw02.TurnEnds'. -/
def turnEndsUptoCard : Claim7 := { stood := { row := turnEndsUptoRow, standIns := [], harness := (true, "b725dd78a201d2ffe3af5a79ffbbe972087fb848ac668f018f954fb309be5c94"), looks := false }, kinds := [], alts := [], laidByText := true, laidKinds := [.data, .funcs], laidTests := true, laidLooks := .later }
def TurnEndsUptoCardSaid : Prop := Claim7.holds Tryd.pinned (.plain (OpenSpec.upto turnEndsSpec)) turnEndsUptoCard

/-- THE SECOND FORM's CARD OF 'huerlaw02.TurnHangs'. -/
def turnHangsUptoCard : Claim7 := { stood := { row := turnHangsUptoRow, standIns := [], harness := (true, "b725dd78a201d2ffe3af5a79ffbbe972087fb848ac668f018f954fb309be5c94"), looks := false }, kinds := [], alts := [], laidByText := true, laidKinds := [.data, .funcs], laidTests := true, laidLooks := .later }
def TurnHangsUptoCardSaid : Prop := Claim7.holds Tryd.pinned (.plain (OpenSpec.upto turnHangsSpec)) turnHangsUptoCard

/-- THE SECOND FORM's CARD OF 'huerlaw02.TurnWrong'. -/
def turnWrongUptoCard : Claim7 := { stood := { row := turnWrongUptoRow, standIns := [], harness := (true, "b725dd78a201d2ffe3af5a79ffbbe972087fb848ac668f018f954fb309be5c94"), looks := false }, kinds := [], alts := [], laidByText := true, laidKinds := [.data, .funcs], laidTests := true, laidLooks := .later }
def TurnWrongUptoCardSaid : Prop := Claim7.holds Tryd.pinned (.plain (OpenSpec.upto turnWrongSpec)) turnWrongUptoCard

/-- THE SECOND FORM's CARD OF 'huerlaw02.TurnKnows'. -/
def turnKnowsUptoCard : Claim7 := { stood := { row := turnKnowsUptoRow, standIns := [], harness := (true, "b725dd78a201d2ffe3af5a79ffbbe972087fb848ac668f018f954fb309be5c94"), looks := false }, kinds := [], alts := [], laidByText := true, laidKinds := [.data, .funcs], laidTests := true, laidLooks := .later }
def TurnKnowsUptoCardSaid : Prop := Claim7.holds Tryd.pinned (.plain (OpenSpec.upto turnKnowsSpec)) turnKnowsUptoCard

/-- THE SECOND FORM's CARD OF 'huerlaw02.TurnSure'. -/
def turnSureUptoCard : Claim7 := { stood := { row := turnSureUptoRow, standIns := [], harness := (true, "b725dd78a201d2ffe3af5a79ffbbe972087fb848ac668f018f954fb309be5c94"), looks := false }, kinds := [], alts := [], laidByText := true, laidKinds := [.data, .funcs], laidTests := true, laidLooks := .later }
def TurnSureUptoCardSaid : Prop := Claim7.holds Tryd.pinned (.plain (OpenSpec.upto turnSureSpec)) turnSureUptoCard

/-- THE SECOND FORM's CARD OF 'huerlaw02.TurnFirst'. -/
def turnFirstUptoCard : Claim7 := { stood := { row := turnFirstUptoRow, standIns := [], harness := (true, "b725dd78a201d2ffe3af5a79ffbbe972087fb848ac668f018f954fb309be5c94"), looks := false }, kinds := [], alts := [], laidByText := true, laidKinds := [.data, .funcs], laidTests := true, laidLooks := .later }
def TurnFirstUptoCardSaid : Prop := Claim7.holds Tryd.pinned (.plain (OpenSpec.upto turnFirstSpec)) turnFirstUptoCard

/-- THE SECOND FORM's CARD OF 'huerlaw02.TurnLearn'. -/
def turnLearnUptoCard : Claim7 := { stood := { row := turnLearnUptoRow, standIns := [], harness := (true, "b725dd78a201d2ffe3af5a79ffbbe972087fb848ac668f018f954fb309be5c94"), looks := false }, kinds := [], alts := [], laidByText := true, laidKinds := [.data, .funcs], laidTests := true, laidLooks := .later }
def TurnLearnUptoCardSaid : Prop := Claim7.holds Tryd.pinned (.plain (OpenSpec.upto turnLearnSpec)) turnLearnUptoCard

/-- THE SECOND FORM's CARD OF 'huerlaw02.TurnKnown'. -/
def turnKnownUptoCard : Claim7 := { stood := { row := turnKnownUptoRow, standIns := [], harness := (true, "b725dd78a201d2ffe3af5a79ffbbe972087fb848ac668f018f954fb309be5c94"), looks := false }, kinds := [], alts := [], laidByText := true, laidKinds := [.data, .funcs], laidTests := true, laidLooks := .later }
def TurnKnownUptoCardSaid : Prop := Claim7.holds Tryd.pinned (.plain (OpenSpec.upto turnKnownSpec)) turnKnownUptoCard
end Rows
end Go.Proofs.YtnhdcdhpfgdphaaDoor
