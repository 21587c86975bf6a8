/-
  DERIVED. GIVEN WITH THE SEED: THE CARDS: each row of YtijjodhkfpjihaaGreatDoorRows.lean that lists a variable, with what it lists TIED to the program's text (the seventh form; the later family's looks); each row that meets fmt, with fmt's text TOLD by the authors' own Lean function (tested against real Go, not proved from fmt's source: count such statements apart). THE CARD IS WHAT COUNTS. Prove the row's statement (the work); the ties are given (YtijjodhkfpjihaaGreatDoorTie.lean); close each card by the builder's one call (the guide's Derived/Test/ToyasCard.lean, 'card_holds'). Laid BY PROGRAM, IN A SANDBOX (cutbox-door.mjs). By AI agents, Wed Nov 11 2026. No macro, syntax, notation, axiom, sorry.
-/
import Derived.Test.YtijjodhkfpjihaaGreatDoorRows
import GoSem.ClaimSeven
namespace Go.Proofs.YtijjodhkfpjihaaGreatDoor
namespace Rows

/-- THE TIED CARD OF 'pantrylaw30.WireNil'. -/
def wireNilCard : Claim7 := { stood := { row := wireNilRow, standIns := [], harness := (true, "4e89ecc1587e2daeffbd6a801dea698fe7705f668ba7e9e4190f291bc6b92647"), looks := true }, kinds := [], alts := [], laidByText := true, laidKinds := [.data, .data, .data, .data, .sentinel, .sentinel, .sentinel, .sentinel, .sentinel, .sentinel, .sentinel, .sentinel, .pinned], laidTests := true, laidLooks := .later }
def WireNilCardSaid : Prop := Claim7.holds Tryz.pinned (.plain (OpenSpec.ofChange wireNilSpec)) wireNilCard

/-- THE SECOND FORM's CARD OF 'pantrylaw30.WireNil'. -/
def wireNilUptoCard : Claim7 := { stood := { row := wireNilUptoRow, standIns := [], harness := (true, "4e89ecc1587e2daeffbd6a801dea698fe7705f668ba7e9e4190f291bc6b92647"), looks := true }, kinds := [], alts := [], laidByText := true, laidKinds := [.data, .data, .data, .data, .sentinel, .sentinel, .sentinel, .sentinel, .sentinel, .sentinel, .sentinel, .sentinel, .pinned], laidTests := true, laidLooks := .later }
def WireNilUptoCardSaid : Prop := Claim7.holds Tryz.pinned (.plain (OpenSpec.upto wireNilSpec)) wireNilUptoCard
end Rows
end Go.Proofs.YtijjodhkfpjihaaGreatDoor
