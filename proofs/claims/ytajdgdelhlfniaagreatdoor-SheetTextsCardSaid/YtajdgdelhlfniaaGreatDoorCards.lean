/-
  DERIVED. GIVEN WITH THE SEED: THE CARDS: each row of YtajdgdelhlfniaaGreatDoorRows.lean that lists a variable, with what it lists TIED to the program's text (the seventh form; the later family's looks); each row that meets fmt, with fmt's text TOLD by the authors' own Lean function (tested against real Go, not proved from fmt's source: count such statements apart). THE CARD IS WHAT COUNTS. Prove the row's statement (the work); the ties are given (YtajdgdelhlfniaaGreatDoorTie.lean); close each card by the builder's one call (the guide's Derived/Test/ToyasCard.lean, 'card_holds'). Laid BY PROGRAM, IN A SANDBOX (cutbox-door.mjs). By AI agents, Wed Nov 11 2026. No macro, syntax, notation, axiom, sorry.
-/
import Derived.Test.YtajdgdelhlfniaaGreatDoorRows
import GoSem.ClaimSeven
namespace Go.Proofs.YtajdgdelhlfniaaGreatDoor
namespace Rows

/-- THE TIED CARD OF 'hachurelaw01.SheetChecks'. -/
def sheetChecksCard : Claim7 := { stood := { row := sheetChecksRow, standIns := [], harness := (true, "336ea1a5ffa85c0cf3c2694a76a07699cd8d1c02231234f466576478e8bfa881"), looks := true }, kinds := [], alts := [], laidByText := true, laidKinds := [.data, .data, .data, .data, .sentinel, .sentinel, .pinned], laidTests := true, laidLooks := .later }
def SheetChecksCardSaid : Prop := Claim7.holds Tryz.pinned (.plain (OpenSpec.ofChange sheetChecksSpec)) sheetChecksCard

/-- THE TIED CARD OF 'hachurelaw01.SheetHeights'. -/
def sheetHeightsCard : Claim7 := { stood := { row := sheetHeightsRow, standIns := [], harness := (true, "336ea1a5ffa85c0cf3c2694a76a07699cd8d1c02231234f466576478e8bfa881"), looks := true }, kinds := [], alts := [], laidByText := true, laidKinds := [.data, .data, .data, .data, .sentinel, .sentinel, .pinned], laidTests := true, laidLooks := .later }
def SheetHeightsCardSaid : Prop := Claim7.holds Tryz.pinned (.plain (OpenSpec.ofChange sheetHeightsSpec)) sheetHeightsCard

/-- THE TIED CARD OF 'hachurelaw01.SheetNotes'. -/
def sheetNotesCard : Claim7 := { stood := { row := sheetNotesRow, standIns := [], harness := (true, "336ea1a5ffa85c0cf3c2694a76a07699cd8d1c02231234f466576478e8bfa881"), looks := true }, kinds := [], alts := [], laidByText := true, laidKinds := [.data, .data, .data, .data, .sentinel, .sentinel, .pinned], laidTests := true, laidLooks := .later }
def SheetNotesCardSaid : Prop := Claim7.holds Tryz.pinned (.plain (OpenSpec.ofChange sheetNotesSpec)) sheetNotesCard

/-- THE TIED CARD OF 'hachurelaw01.SheetTexts'. -/
def sheetTextsCard : Claim7 := { stood := { row := sheetTextsRow, standIns := [], harness := (true, "336ea1a5ffa85c0cf3c2694a76a07699cd8d1c02231234f466576478e8bfa881"), looks := true }, kinds := [], alts := [], laidByText := true, laidKinds := [.data, .data, .data, .data, .sentinel, .sentinel, .pinned], laidTests := true, laidLooks := .later }
def SheetTextsCardSaid : Prop := Claim7.holds Tryz.pinned (.plain (OpenSpec.ofChange sheetTextsSpec)) sheetTextsCard

/-- THE TIED CARD OF 'hachurelaw01.SheetKnown'. -/
def sheetKnownCard : Claim7 := { stood := { row := sheetKnownRow, standIns := [], harness := (true, "336ea1a5ffa85c0cf3c2694a76a07699cd8d1c02231234f466576478e8bfa881"), looks := true }, kinds := [], alts := [], laidByText := true, laidKinds := [.data, .data, .data, .data, .sentinel, .sentinel, .pinned], laidTests := true, laidLooks := .later }
def SheetKnownCardSaid : Prop := Claim7.holds Tryz.pinned (.plain (OpenSpec.ofChange sheetKnownSpec)) sheetKnownCard

/-- THE TIED CARD OF 'hachurelaw01.SheetTrue'. -/
def sheetTrueCard : Claim7 := { stood := { row := sheetTrueRow, standIns := [], harness := (true, "336ea1a5ffa85c0cf3c2694a76a07699cd8d1c02231234f466576478e8bfa881"), looks := true }, kinds := [], alts := [], laidByText := true, laidKinds := [.data, .data, .data, .data, .sentinel, .sentinel, .pinned], laidTests := true, laidLooks := .later }
def SheetTrueCardSaid : Prop := Claim7.holds Tryz.pinned (.plain (OpenSpec.ofChange sheetTrueSpec)) sheetTrueCard

/-- THE TIED CARD OF 'hachurelaw01.SheetReached'. -/
def sheetReachedCard : Claim7 := { stood := { row := sheetReachedRow, standIns := [], harness := (true, "336ea1a5ffa85c0cf3c2694a76a07699cd8d1c02231234f466576478e8bfa881"), looks := true }, kinds := [], alts := [], laidByText := true, laidKinds := [.data, .data, .data, .data, .sentinel, .sentinel, .pinned], laidTests := true, laidLooks := .later }
def SheetReachedCardSaid : Prop := Claim7.holds Tryz.pinned (.plain (OpenSpec.ofChange sheetReachedSpec)) sheetReachedCard

/-- THE TIED CARD OF 'hachurelaw01.SheetMore'. -/
def sheetMoreCard : Claim7 := { stood := { row := sheetMoreRow, standIns := [], harness := (true, "336ea1a5ffa85c0cf3c2694a76a07699cd8d1c02231234f466576478e8bfa881"), looks := true }, kinds := [], alts := [], laidByText := true, laidKinds := [.data, .data, .data, .data, .sentinel, .sentinel, .pinned], laidTests := true, laidLooks := .later }
def SheetMoreCardSaid : Prop := Claim7.holds Tryz.pinned (.plain (OpenSpec.ofChange sheetMoreSpec)) sheetMoreCard

/-- THE TIED CARD OF 'hachurelaw01.SheetProof'. -/
def sheetProofCard : Claim7 := { stood := { row := sheetProofRow, standIns := [], harness := (true, "336ea1a5ffa85c0cf3c2694a76a07699cd8d1c02231234f466576478e8bfa881"), looks := true }, kinds := [], alts := [], laidByText := true, laidKinds := [.data, .data, .data, .data, .sentinel, .sentinel, .pinned], laidTests := true, laidLooks := .later }
def SheetProofCardSaid : Prop := Claim7.holds Tryz.pinned (.plain (OpenSpec.ofChange sheetProofSpec)) sheetProofCard

/-- THE TIED CARD OF 'hachurelaw01.SheetWrong'. -/
def sheetWrongCard : Claim7 := { stood := { row := sheetWrongRow, standIns := [], harness := (true, "336ea1a5ffa85c0cf3c2694a76a07699cd8d1c02231234f466576478e8bfa881"), looks := true }, kinds := [], alts := [], laidByText := true, laidKinds := [.data, .data, .data, .data, .sentinel, .sentinel, .pinned], laidTests := true, laidLooks := .later }
def SheetWrongCardSaid : Prop := Claim7.holds Tryz.pinned (.plain (OpenSpec.ofChange sheetWrongSpec)) sheetWrongCard

/-- THE TIED CARD OF 'hachurelaw01.SheetWider'. -/
def sheetWiderCard : Claim7 := { stood := { row := sheetWiderRow, standIns := [], harness := (true, "336ea1a5ffa85c0cf3c2694a76a07699cd8d1c02231234f466576478e8bfa881"), looks := true }, kinds := [], alts := [], laidByText := true, laidKinds := [.data, .data, .data, .data, .sentinel, .sentinel, .pinned], laidTests := true, laidLooks := .later }
def SheetWiderCardSaid : Prop := Claim7.holds Tryz.pinned (.plain (OpenSpec.ofChange sheetWiderSpec)) sheetWiderCard

/-- THE TIED CARD OF 'hachurelaw01.SheetOrder'. -/
def sheetOrderCard : Claim7 := { stood := { row := sheetOrderRow, standIns := [], harness := (true, "336ea1a5ffa85c0cf3c2694a76a07699cd8d1c02231234f466576478e8bfa881"), looks := true }, kinds := [], alts := [], laidByText := true, laidKinds := [.data, .data, .data, .data, .sentinel, .sentinel, .pinned], laidTests := true, laidLooks := .later }
def SheetOrderCardSaid : Prop := Claim7.holds Tryz.pinned (.plain (OpenSpec.ofChange sheetOrderSpec)) sheetOrderCard

/-- THE TIED CARD OF 'hachurelaw01.SheetRound'. -/
def sheetRoundCard : Claim7 := { stood := { row := sheetRoundRow, standIns := [], harness := (true, "336ea1a5ffa85c0cf3c2694a76a07699cd8d1c02231234f466576478e8bfa881"), looks := true }, kinds := [], alts := [], laidByText := true, laidKinds := [.data, .data, .data, .data, .sentinel, .sentinel, .pinned], laidTests := true, laidLooks := .later }
def SheetRoundCardSaid : Prop := Claim7.holds Tryz.pinned (.plain (OpenSpec.ofChange sheetRoundSpec)) sheetRoundCard

/-- THE SECOND FORM's CARD OF 'hachurelaw01.SheetChecks'. -/
def sheetChecksUptoCard : Claim7 := { stood := { row := sheetChecksUptoRow, standIns := [], harness := (true, "336ea1a5ffa85c0cf3c2694a76a07699cd8d1c02231234f466576478e8bfa881"), looks := true }, kinds := [], alts := [], laidByText := true, laidKinds := [.data, .data, .data, .data, .sentinel, .sentinel, .pinned], laidTests := true, laidLooks := .later }
def SheetChecksUptoCardSaid : Prop := Claim7.holds Tryz.pinned (.plain (OpenSpec.upto sheetChecksSpec)) sheetChecksUptoCard

/-- THE SECOND FORM's CARD OF 'hachurelaw01.SheetHeights'. -/
def sheetHeightsUptoCard : Claim7 := { stood := { row := sheetHeightsUptoRow, standIns := [], harness := (true, "336ea1a5ffa85c0cf3c2694a76a07699cd8d1c02231234f466576478e8bfa881"), looks := true }, kinds := [], alts := [], laidByText := true, laidKinds := [.data, .data, .data, .data, .sentinel, .sentinel, .pinned], laidTests := true, laidLooks := .later }
def SheetHeightsUptoCardSaid : Prop := Claim7.holds Tryz.pinned (.plain (OpenSpec.upto sheetHeightsSpec)) sheetHeightsUptoCard

/-- THE SECOND FORM's CARD OF 'hachurelaw01.SheetNotes'. -/
def sheetNotesUptoCard : Claim7 := { stood := { row := sheetNotesUptoRow, standIns := [], harness := (true, "336ea1a5ffa85c0cf3c2694a76a07699cd8d1c02231234f466576478e8bfa881"), looks := true }, kinds := [], alts := [], laidByText := true, laidKinds := [.data, .data, .data, .data, .sentinel, .sentinel, .pinned], laidTests := true, laidLooks := .later }
def SheetNotesUptoCardSaid : Prop := Claim7.holds Tryz.pinned (.plain (OpenSpec.upto sheetNotesSpec)) sheetNotesUptoCard

/-- THE SECOND FORM's CARD OF 'hachurelaw01.SheetTexts'. -/
def sheetTextsUptoCard : Claim7 := { stood := { row := sheetTextsUptoRow, standIns := [], harness := (true, "336ea1a5ffa85c0cf3c2694a76a07699cd8d1c02231234f466576478e8bfa881"), looks := true }, kinds := [], alts := [], laidByText := true, laidKinds := [.data, .data, .data, .data, .sentinel, .sentinel, .pinned], laidTests := true, laidLooks := .later }
def SheetTextsUptoCardSaid : Prop := Claim7.holds Tryz.pinned (.plain (OpenSpec.upto sheetTextsSpec)) sheetTextsUptoCard

/-- THE SECOND FORM's CARD OF 'hachurelaw01.SheetKnown'. -/
def sheetKnownUptoCard : Claim7 := { stood := { row := sheetKnownUptoRow, standIns := [], harness := (true, "336ea1a5ffa85c0cf3c2694a76a07699cd8d1c02231234f466576478e8bfa881"), looks := true }, kinds := [], alts := [], laidByText := true, laidKinds := [.data, .data, .data, .data, .sentinel, .sentinel, .pinned], laidTests := true, laidLooks := .later }
def SheetKnownUptoCardSaid : Prop := Claim7.holds Tryz.pinned (.plain (OpenSpec.upto sheetKnownSpec)) sheetKnownUptoCard

/-- THE SECOND FORM's CARD OF 'hachurelaw01.SheetTrue'. -/
def sheetTrueUptoCard : Claim7 := { stood := { row := sheetTrueUptoRow, standIns := [], harness := (true, "336ea1a5ffa85c0cf3c2694a76a07699cd8d1c02231234f466576478e8bfa881"), looks := true }, kinds := [], alts := [], laidByText := true, laidKinds := [.data, .data, .data, .data, .sentinel, .sentinel, .pinned], laidTests := true, laidLooks := .later }
def SheetTrueUptoCardSaid : Prop := Claim7.holds Tryz.pinned (.plain (OpenSpec.upto sheetTrueSpec)) sheetTrueUptoCard

/-- THE SECOND FORM's CARD OF 'hachurelaw01.SheetReached'. -/
def sheetReachedUptoCard : Claim7 := { stood := { row := sheetReachedUptoRow, standIns := [], harness := (true, "336ea1a5ffa85c0cf3c2694a76a07699cd8d1c02231234f466576478e8bfa881"), looks := true }, kinds := [], alts := [], laidByText := true, laidKinds := [.data, .data, .data, .data, .sentinel, .sentinel, .pinned], laidTests := true, laidLooks := .later }
def SheetReachedUptoCardSaid : Prop := Claim7.holds Tryz.pinned (.plain (OpenSpec.upto sheetReachedSpec)) sheetReachedUptoCard

/-- THE SECOND FORM's CARD OF 'hachurelaw01.SheetMore'. -/
def sheetMoreUptoCard : Claim7 := { stood := { row := sheetMoreUptoRow, standIns := [], harness := (true, "336ea1a5ffa85c0cf3c2694a76a07699cd8d1c02231234f466576478e8bfa881"), looks := true }, kinds := [], alts := [], laidByText := true, laidKinds := [.data, .data, .data, .data, .sentinel, .sentinel, .pinned], laidTests := true, laidLooks := .later }
def SheetMoreUptoCardSaid : Prop := Claim7.holds Tryz.pinned (.plain (OpenSpec.upto sheetMoreSpec)) sheetMoreUptoCard

/-- THE SECOND FORM's CARD OF 'hachurelaw01.SheetProof'. -/
def sheetProofUptoCard : Claim7 := { stood := { row := sheetProofUptoRow, standIns := [], harness := (true, "336ea1a5ffa85c0cf3c2694a76a07699cd8d1c02231234f466576478e8bfa881"), looks := true }, kinds := [], alts := [], laidByText := true, laidKinds := [.data, .data, .data, .data, .sentinel, .sentinel, .pinned], laidTests := true, laidLooks := .later }
def SheetProofUptoCardSaid : Prop := Claim7.holds Tryz.pinned (.plain (OpenSpec.upto sheetProofSpec)) sheetProofUptoCard

/-- THE SECOND FORM's CARD OF 'hachurelaw01.SheetWrong'. -/
def sheetWrongUptoCard : Claim7 := { stood := { row := sheetWrongUptoRow, standIns := [], harness := (true, "336ea1a5ffa85c0cf3c2694a76a07699cd8d1c02231234f466576478e8bfa881"), looks := true }, kinds := [], alts := [], laidByText := true, laidKinds := [.data, .data, .data, .data, .sentinel, .sentinel, .pinned], laidTests := true, laidLooks := .later }
def SheetWrongUptoCardSaid : Prop := Claim7.holds Tryz.pinned (.plain (OpenSpec.upto sheetWrongSpec)) sheetWrongUptoCard

/-- THE SECOND FORM's CARD OF 'hachurelaw01.SheetWider'. -/
def sheetWiderUptoCard : Claim7 := { stood := { row := sheetWiderUptoRow, standIns := [], harness := (true, "336ea1a5ffa85c0cf3c2694a76a07699cd8d1c02231234f466576478e8bfa881"), looks := true }, kinds := [], alts := [], laidByText := true, laidKinds := [.data, .data, .data, .data, .sentinel, .sentinel, .pinned], laidTests := true, laidLooks := .later }
def SheetWiderUptoCardSaid : Prop := Claim7.holds Tryz.pinned (.plain (OpenSpec.upto sheetWiderSpec)) sheetWiderUptoCard

/-- THE SECOND FORM's CARD OF 'hachurelaw01.SheetOrder'. -/
def sheetOrderUptoCard : Claim7 := { stood := { row := sheetOrderUptoRow, standIns := [], harness := (true, "336ea1a5ffa85c0cf3c2694a76a07699cd8d1c02231234f466576478e8bfa881"), looks := true }, kinds := [], alts := [], laidByText := true, laidKinds := [.data, .data, .data, .data, .sentinel, .sentinel, .pinned], laidTests := true, laidLooks := .later }
def SheetOrderUptoCardSaid : Prop := Claim7.holds Tryz.pinned (.plain (OpenSpec.upto sheetOrderSpec)) sheetOrderUptoCard

/-- THE SECOND FORM's CARD OF 'hachurelaw01.SheetRound'. -/
def sheetRoundUptoCard : Claim7 := { stood := { row := sheetRoundUptoRow, standIns := [], harness := (true, "336ea1a5ffa85c0cf3c2694a76a07699cd8d1c02231234f466576478e8bfa881"), looks := true }, kinds := [], alts := [], laidByText := true, laidKinds := [.data, .data, .data, .data, .sentinel, .sentinel, .pinned], laidTests := true, laidLooks := .later }
def SheetRoundUptoCardSaid : Prop := Claim7.holds Tryz.pinned (.plain (OpenSpec.upto sheetRoundSpec)) sheetRoundUptoCard
end Rows
end Go.Proofs.YtajdgdelhlfniaaGreatDoor
