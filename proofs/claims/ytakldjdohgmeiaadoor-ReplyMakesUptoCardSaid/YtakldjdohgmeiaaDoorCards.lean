/-
  DERIVED. GIVEN WITH THE SEED: THE CARDS: each row of YtakldjdohgmeiaaDoorRows.lean that lists a variable, with what it lists TIED to the program's text (the seventh form; the later family's looks); each row that meets fmt, with fmt's text TOLD by the authors' own Lean function (tested against real Go, not proved from fmt's source: count such statements apart). THE CARD IS WHAT COUNTS. Prove the row's statement (the work); the ties are given (YtakldjdohgmeiaaDoorTie.lean); close each card by the builder's one call (the guide's Derived/Test/ToyasCard.lean, 'card_holds'). Laid BY PROGRAM, IN A SANDBOX (cutbox-door.mjs). By AI agents, Wed Nov 11 2026. No macro, syntax, notation, axiom, sorry.
-/
import Derived.Test.YtakldjdohgmeiaaDoorRows
import GoSem.ClaimSeven
namespace Go.Proofs.YtakldjdohgmeiaaDoor
namespace Rows

/-- THE TIED CARD OF 'pantrylaw16.ReplyCommands'. -/
def replyCommandsCard : Claim7 := { stood := { row := replyCommandsRow, standIns := [], harness := (true, "65d28104a4199a0c1dce7673a13685ba797cc20542d027518d3e7113f04db2b9"), looks := true }, kinds := [], alts := [], laidByText := true, laidKinds := [.data, .data, .data, .data, .sentinel, .sentinel, .pinned], laidTests := true, laidLooks := .later }
def ReplyCommandsCardSaid : Prop := Claim7.holds Tryd.pinned (.plain (OpenSpec.ofChange replyCommandsSpec)) replyCommandsCard

/-- THE TIED CARD OF 'pantrylaw16.ReplyWrites'. -/
def replyWritesCard : Claim7 := { stood := { row := replyWritesRow, standIns := [], harness := (true, "65d28104a4199a0c1dce7673a13685ba797cc20542d027518d3e7113f04db2b9"), looks := true }, kinds := [], alts := [], laidByText := true, laidKinds := [.data, .data, .data], laidTests := true, laidLooks := .later }
def ReplyWritesCardSaid : Prop := Claim7.holds Tryd.pinned (.plain (OpenSpec.ofChange replyWritesSpec)) replyWritesCard

/-- THE TIED CARD OF 'pantrylaw16.ReplyMakes'. -/
def replyMakesCard : Claim7 := { stood := { row := replyMakesRow, standIns := [], harness := (true, "65d28104a4199a0c1dce7673a13685ba797cc20542d027518d3e7113f04db2b9"), looks := true }, kinds := [], alts := [], laidByText := true, laidKinds := [.data, .data, .data, .data, .pinned], laidTests := true, laidLooks := .later }
def ReplyMakesCardSaid : Prop := Claim7.holds Tryd.pinned (.plain (OpenSpec.ofChange replyMakesSpec)) replyMakesCard

/-- THE TIED CARD OF 'pantrylaw17.RequestQuotes'. -/
def requestQuotesCard : Claim7 := { stood := { row := requestQuotesRow, standIns := [], harness := (true, "65d28104a4199a0c1dce7673a13685ba797cc20542d027518d3e7113f04db2b9"), looks := true }, kinds := [], alts := [], laidByText := true, laidKinds := [.data, .data, .data, .sentinel, .sentinel, .sentinel, .sentinel, .sentinel, .sentinel, .sentinel, .sentinel], laidTests := true, laidLooks := .later }
def RequestQuotesCardSaid : Prop := Claim7.holds Tryd.pinned (.plain (OpenSpec.ofChange requestQuotesSpec)) requestQuotesCard

/-- THE TIED CARD OF 'pantrylaw17.RequestBack'. -/
def requestBackCard : Claim7 := { stood := { row := requestBackRow, standIns := [], harness := (true, "65d28104a4199a0c1dce7673a13685ba797cc20542d027518d3e7113f04db2b9"), looks := true }, kinds := [], alts := [], laidByText := true, laidKinds := [.data, .data, .data, .sentinel, .sentinel, .sentinel, .sentinel, .sentinel, .sentinel, .sentinel, .sentinel], laidTests := true, laidLooks := .later }
def RequestBackCardSaid : Prop := Claim7.holds Tryd.pinned (.plain (OpenSpec.ofChange requestBackSpec)) requestBackCard

/-- THE TIED CARD OF 'pantrylaw16.ReplyBack'. -/
def replyBackCard : Claim7 := { stood := { row := replyBackRow, standIns := [], harness := (true, "65d28104a4199a0c1dce7673a13685ba797cc20542d027518d3e7113f04db2b9"), looks := true }, kinds := [], alts := [], laidByText := true, laidKinds := [.data, .data, .data, .data, .sentinel, .sentinel, .pinned], laidTests := true, laidLooks := .later }
def ReplyBackCardSaid : Prop := Claim7.holds Tryd.pinned (.plain (OpenSpec.ofChange replyBackSpec)) replyBackCard

/-- THE TIED CARD OF 'pantrylaw16.ReplyForm'. -/
def replyFormCard : Claim7 := { stood := { row := replyFormRow, standIns := [], harness := (true, "65d28104a4199a0c1dce7673a13685ba797cc20542d027518d3e7113f04db2b9"), looks := true }, kinds := [], alts := [], laidByText := true, laidKinds := [.data, .data, .data, .data, .sentinel, .sentinel, .pinned], laidTests := true, laidLooks := .later }
def ReplyFormCardSaid : Prop := Claim7.holds Tryd.pinned (.plain (OpenSpec.ofChange replyFormSpec)) replyFormCard

/-- THE SECOND FORM's CARD OF 'pantrylaw16.ReplyCommands'. -/
def replyCommandsUptoCard : Claim7 := { stood := { row := replyCommandsUptoRow, standIns := [], harness := (true, "65d28104a4199a0c1dce7673a13685ba797cc20542d027518d3e7113f04db2b9"), looks := true }, kinds := [], alts := [], laidByText := true, laidKinds := [.data, .data, .data, .data, .sentinel, .sentinel, .pinned], laidTests := true, laidLooks := .later }
def ReplyCommandsUptoCardSaid : Prop := Claim7.holds Tryd.pinned (.plain (OpenSpec.upto replyCommandsSpec)) replyCommandsUptoCard

/-- THE SECOND FORM's CARD OF 'pantrylaw16.ReplyWrites'. -/
def replyWritesUptoCard : Claim7 := { stood := { row := replyWritesUptoRow, standIns := [], harness := (true, "65d28104a4199a0c1dce7673a13685ba797cc20542d027518d3e7113f04db2b9"), looks := true }, kinds := [], alts := [], laidByText := true, laidKinds := [.data, .data, .data], laidTests := true, laidLooks := .later }
def ReplyWritesUptoCardSaid : Prop := Claim7.holds Tryd.pinned (.plain (OpenSpec.upto replyWritesSpec)) replyWritesUptoCard

/-- THE SECOND FORM's CARD OF 'pantrylaw16.ReplyMakes'. -/
def replyMakesUptoCard : Claim7 := { stood := { row := replyMakesUptoRow, standIns := [], harness := (true, "65d28104a4199a0c1dce7673a13685ba797cc20542d027518d3e7113f04db2b9"), looks := true }, kinds := [], alts := [], laidByText := true, laidKinds := [.data, .data, .data, .data, .pinned], laidTests := true, laidLooks := .later }
def ReplyMakesUptoCardSaid : Prop := Claim7.holds Tryd.pinned (.plain (OpenSpec.upto replyMakesSpec)) replyMakesUptoCard

/-- THE SECOND FORM's CARD OF 'pantrylaw17.RequestQuotes'. -/
def requestQuotesUptoCard : Claim7 := { stood := { row := requestQuotesUptoRow, standIns := [], harness := (true, "65d28104a4199a0c1dce7673a13685ba797cc20542d027518d3e7113f04db2b9"), looks := true }, kinds := [], alts := [], laidByText := true, laidKinds := [.data, .data, .data, .sentinel, .sentinel, .sentinel, .sentinel, .sentinel, .sentinel, .sentinel, .sentinel], laidTests := true, laidLooks := .later }
def RequestQuotesUptoCardSaid : Prop := Claim7.holds Tryd.pinned (.plain (OpenSpec.upto requestQuotesSpec)) requestQuotesUptoCard

/-- THE SECOND FORM's CARD OF 'pantrylaw17.RequestBack'. -/
def requestBackUptoCard : Claim7 := { stood := { row := requestBackUptoRow, standIns := [], harness := (true, "65d28104a4199a0c1dce7673a13685ba797cc20542d027518d3e7113f04db2b9"), looks := true }, kinds := [], alts := [], laidByText := true, laidKinds := [.data, .data, .data, .sentinel, .sentinel, .sentinel, .sentinel, .sentinel, .sentinel, .sentinel, .sentinel], laidTests := true, laidLooks := .later }
def RequestBackUptoCardSaid : Prop := Claim7.holds Tryd.pinned (.plain (OpenSpec.upto requestBackSpec)) requestBackUptoCard

/-- THE SECOND FORM's CARD OF 'pantrylaw16.ReplyBack'. -/
def replyBackUptoCard : Claim7 := { stood := { row := replyBackUptoRow, standIns := [], harness := (true, "65d28104a4199a0c1dce7673a13685ba797cc20542d027518d3e7113f04db2b9"), looks := true }, kinds := [], alts := [], laidByText := true, laidKinds := [.data, .data, .data, .data, .sentinel, .sentinel, .pinned], laidTests := true, laidLooks := .later }
def ReplyBackUptoCardSaid : Prop := Claim7.holds Tryd.pinned (.plain (OpenSpec.upto replyBackSpec)) replyBackUptoCard

/-- THE SECOND FORM's CARD OF 'pantrylaw16.ReplyForm'. -/
def replyFormUptoCard : Claim7 := { stood := { row := replyFormUptoRow, standIns := [], harness := (true, "65d28104a4199a0c1dce7673a13685ba797cc20542d027518d3e7113f04db2b9"), looks := true }, kinds := [], alts := [], laidByText := true, laidKinds := [.data, .data, .data, .data, .sentinel, .sentinel, .pinned], laidTests := true, laidLooks := .later }
def ReplyFormUptoCardSaid : Prop := Claim7.holds Tryd.pinned (.plain (OpenSpec.upto replyFormSpec)) replyFormUptoCard
end Rows
end Go.Proofs.YtakldjdohgmeiaaDoor
