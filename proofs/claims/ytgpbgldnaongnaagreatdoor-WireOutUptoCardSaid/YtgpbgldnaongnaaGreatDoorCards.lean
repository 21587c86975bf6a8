/-
  DERIVED. GIVEN WITH THE SEED: THE CARDS: each row of YtgpbgldnaongnaaGreatDoorRows.lean that lists a variable, with what it lists TIED to the program's text (the seventh form; the later family's looks); each row that meets fmt, with fmt's text TOLD by the authors' own Lean function (tested against real Go, not proved from fmt's source: count such statements apart). THE CARD IS WHAT COUNTS. Prove the row's statement (the work); the ties are given (YtgpbgldnaongnaaGreatDoorTie.lean); close each card by the builder's one call (the guide's Derived/Test/ToyasCard.lean, 'card_holds'). Laid BY PROGRAM, IN A SANDBOX (cutbox-door.mjs). By AI agents, Wed Nov 11 2026. No macro, syntax, notation, axiom, sorry.
-/
import Derived.Test.YtgpbgldnaongnaaGreatDoorRows
import GoSem.ClaimSeven
namespace Go.Proofs.YtgpbgldnaongnaaGreatDoor
namespace Rows

/-- THE TIED CARD OF 'pantrylaw30.WireOut'. -/
def wireOutCard : Claim7 := { stood := { row := wireOutRow, standIns := [], harness := (true, "389eed078b0a898eadb6080acbe63d670a9826d139d0f3e4a8343e769b9bab05"), looks := true }, kinds := [], alts := [], laidByText := true, laidKinds := [.data, .data, .data, .data, .sentinel, .sentinel, .sentinel, .sentinel, .sentinel, .sentinel, .sentinel, .sentinel, .pinned], laidTests := true, laidLooks := .later }
def WireOutCardSaid : Prop := Claim7.holds Tryz.pinned (.plain (OpenSpec.ofChange wireOutSpec)) wireOutCard

/-- THE SECOND FORM's CARD OF 'pantrylaw30.WireOut'. -/
def wireOutUptoCard : Claim7 := { stood := { row := wireOutUptoRow, standIns := [], harness := (true, "389eed078b0a898eadb6080acbe63d670a9826d139d0f3e4a8343e769b9bab05"), looks := true }, kinds := [], alts := [], laidByText := true, laidKinds := [.data, .data, .data, .data, .sentinel, .sentinel, .sentinel, .sentinel, .sentinel, .sentinel, .sentinel, .sentinel, .pinned], laidTests := true, laidLooks := .later }
def WireOutUptoCardSaid : Prop := Claim7.holds Tryz.pinned (.plain (OpenSpec.upto wireOutSpec)) wireOutUptoCard
end Rows
end Go.Proofs.YtgpbgldnaongnaaGreatDoor
