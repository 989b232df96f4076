/-
  DERIVED. GIVEN WITH THE SEED: THE CARDS: each row of YtbjcefejalifeacGreatDoorRows.lean that lists a variable, with what it lists TIED to the program's text (the seventh form; the later family's looks); each row that meets fmt, with fmt's text TOLD by the authors' own Lean function (tested against real Go, not proved from fmt's source: count such statements apart). THE CARD IS WHAT COUNTS. Prove the row's statement (the work); the ties are given (YtbjcefejalifeacGreatDoorTie.lean); close each card by the builder's one call (the guide's Derived/Test/ToyasCard.lean, 'card_holds'). Laid BY PROGRAM, IN A SANDBOX (cutbox-door.mjs). By AI agents, Wed Nov 11 2026. No macro, syntax, notation, axiom, sorry.
-/
import Derived.Test.YtbjcefejalifeacGreatDoorRows
import GoSem.ClaimSeven
namespace Go.Proofs.YtbjcefejalifeacGreatDoor
namespace Rows

/-- THE TIED CARD OF 'cordonlaw16.InterpNil'. -/
def interpNilCard : Claim7 := { stood := { row := interpNilRow, standIns := [], harness := (true, "17bc08a262897e0c4f955b7610de31e79e6e9f744a03ed65690515cc235e6b57"), looks := false }, kinds := [], alts := [], laidByText := true, laidKinds := [.data, .data, .data, .data, .pinned], laidTests := true, laidLooks := .later }
def InterpNilCardSaid : Prop := Claim7.holds Tryz.pinned (.plain (OpenSpec.ofChange interpNilSpec)) interpNilCard

/-- THE SECOND FORM's CARD OF 'cordonlaw16.InterpNil'. -/
def interpNilUptoCard : Claim7 := { stood := { row := interpNilUptoRow, standIns := [], harness := (true, "17bc08a262897e0c4f955b7610de31e79e6e9f744a03ed65690515cc235e6b57"), looks := false }, kinds := [], alts := [], laidByText := true, laidKinds := [.data, .data, .data, .data, .pinned], laidTests := true, laidLooks := .later }
def InterpNilUptoCardSaid : Prop := Claim7.holds Tryz.pinned (.plain (OpenSpec.upto interpNilSpec)) interpNilUptoCard
end Rows
end Go.Proofs.YtbjcefejalifeacGreatDoor
