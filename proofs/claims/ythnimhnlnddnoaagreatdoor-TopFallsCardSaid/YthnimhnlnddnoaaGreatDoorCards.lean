/-
  DERIVED. GIVEN WITH THE SEED: THE CARDS: each row of YthnimhnlnddnoaaGreatDoorRows.lean that lists a variable, with what it lists TIED to the program's text (the seventh form; the later family's looks); each row that meets fmt, with fmt's text TOLD by the authors' own Lean function (tested against real Go, not proved from fmt's source: count such statements apart). THE CARD IS WHAT COUNTS. Prove the row's statement (the work); the ties are given (YthnimhnlnddnoaaGreatDoorTie.lean); close each card by the builder's one call (the guide's Derived/Test/ToyasCard.lean, 'card_holds'). Laid BY PROGRAM, IN A SANDBOX (cutbox-door.mjs). By AI agents, Wed Nov 11 2026. No macro, syntax, notation, axiom, sorry.
-/
import Derived.Test.YthnimhnlnddnoaaGreatDoorRows
import GoSem.ClaimSeven
namespace Go.Proofs.YthnimhnlnddnoaaGreatDoor
namespace Rows

/-- THE TIED CARD OF 'hachuretop.TopFalls'. -/
def topFallsCard : Claim7 := { stood := { row := topFallsRow, standIns := [], harness := (true, "b9a18ca89c423eba613fd60120d00540ba1ba07ebca667831ee48837c50dd267"), looks := true }, kinds := [], alts := [], laidByText := true, laidKinds := [.data, .data, .data, .data, .sentinel, .sentinel, .pinned], laidTests := true, laidLooks := .later }
def TopFallsCardSaid : Prop := Claim7.holds Tryz.pinned (.plain (OpenSpec.ofChange topFallsSpec)) topFallsCard

/-- THE SECOND FORM's CARD OF 'hachuretop.TopFalls'. -/
def topFallsUptoCard : Claim7 := { stood := { row := topFallsUptoRow, standIns := [], harness := (true, "b9a18ca89c423eba613fd60120d00540ba1ba07ebca667831ee48837c50dd267"), looks := true }, kinds := [], alts := [], laidByText := true, laidKinds := [.data, .data, .data, .data, .sentinel, .sentinel, .pinned], laidTests := true, laidLooks := .later }
def TopFallsUptoCardSaid : Prop := Claim7.holds Tryz.pinned (.plain (OpenSpec.upto topFallsSpec)) topFallsUptoCard
end Rows
end Go.Proofs.YthnimhnlnddnoaaGreatDoor
