/-
  DERIVED. GIVEN WITH THE SEED: THE CARDS: each row of YtenacajpgpkdnaaDoorRows.lean that lists a variable, with what it lists TIED to the program's text (the seventh form; the later family's looks); each row that meets fmt, with fmt's text TOLD by the authors' own Lean function (tested against real Go, not proved from fmt's source: count such statements apart). THE CARD IS WHAT COUNTS. Prove the row's statement (the work); the ties are given (YtenacajpgpkdnaaDoorTie.lean); close each card by the builder's one call (the guide's Derived/Test/ToyasCard.lean, 'card_holds'). Laid BY PROGRAM, IN A SANDBOX (cutbox-door.mjs). By AI agents, Wed Nov 11 2026. No macro, syntax, notation, axiom, sorry.
-/
import Derived.Test.YtenacajpgpkdnaaDoorRows
import GoSem.ClaimSeven
namespace Go.Proofs.YtenacajpgpkdnaaDoor
namespace Rows

/-- THE TIED CARD OF 'pantrylaw01.DigitWrites'. -/
def digitWritesCard : Claim7 := { stood := { row := digitWritesRow, standIns := [], harness := (true, "d3362ab7993565993083f82dc4819efbe2a2f96b59249f8e4c5f1d76171cf70d"), looks := true }, kinds := [], alts := [], laidByText := true, laidKinds := [.data, .data, .data], laidTests := true, laidLooks := .later }
def DigitWritesCardSaid : Prop := Claim7.holds Tryd.pinned (.plain (OpenSpec.ofChange digitWritesSpec)) digitWritesCard

/-- THE TIED CARD OF 'pantrylaw16.ReplyCommands'. -/
def replyCommandsCard : Claim7 := { stood := { row := replyCommandsRow, standIns := [], harness := (true, "d3362ab7993565993083f82dc4819efbe2a2f96b59249f8e4c5f1d76171cf70d"), looks := true }, kinds := [], alts := [], laidByText := true, laidKinds := [.data, .data, .data, .data, .sentinel, .sentinel, .pinned], laidTests := true, laidLooks := .later }
def ReplyCommandsCardSaid : Prop := Claim7.holds Tryd.pinned (.plain (OpenSpec.ofChange replyCommandsSpec)) replyCommandsCard

/-- THE TIED CARD OF 'pantrylaw16.ReplyWrites'. -/
def replyWritesCard : Claim7 := { stood := { row := replyWritesRow, standIns := [], harness := (true, "d3362ab7993565993083f82dc4819efbe2a2f96b59249f8e4c5f1d76171cf70d"), looks := true }, kinds := [], alts := [], laidByText := true, laidKinds := [.data, .data, .data], laidTests := true, laidLooks := .later }
def ReplyWritesCardSaid : Prop := Claim7.holds Tryd.pinned (.plain (OpenSpec.ofChange replyWritesSpec)) replyWritesCard

/-- THE TIED CARD OF 'pantrylaw01.DigitReads'. -/
def digitReadsCard : Claim7 := { stood := { row := digitReadsRow, standIns := [], harness := (true, "d3362ab7993565993083f82dc4819efbe2a2f96b59249f8e4c5f1d76171cf70d"), looks := true }, kinds := [], alts := [], laidByText := true, laidKinds := [.data, .data, .data, .sentinel, .sentinel], laidTests := true, laidLooks := .later }
def DigitReadsCardSaid : Prop := Claim7.holds Tryd.pinned (.plain (OpenSpec.ofChange digitReadsSpec)) digitReadsCard

/-- THE TIED CARD OF 'pantrylaw16.ReplyMakes'. -/
def replyMakesCard : Claim7 := { stood := { row := replyMakesRow, standIns := [], harness := (true, "d3362ab7993565993083f82dc4819efbe2a2f96b59249f8e4c5f1d76171cf70d"), looks := true }, kinds := [], alts := [], laidByText := true, laidKinds := [.data, .data, .data, .data, .pinned], laidTests := true, laidLooks := .later }
def ReplyMakesCardSaid : Prop := Claim7.holds Tryd.pinned (.plain (OpenSpec.ofChange replyMakesSpec)) replyMakesCard

/-- THE TIED CARD OF 'pantrylaw01.DigitBack'. -/
def digitBackCard : Claim7 := { stood := { row := digitBackRow, standIns := [], harness := (true, "d3362ab7993565993083f82dc4819efbe2a2f96b59249f8e4c5f1d76171cf70d"), looks := true }, kinds := [], alts := [], laidByText := true, laidKinds := [.data, .data, .data, .sentinel, .sentinel], laidTests := true, laidLooks := .later }
def DigitBackCardSaid : Prop := Claim7.holds Tryd.pinned (.plain (OpenSpec.ofChange digitBackSpec)) digitBackCard

/-- THE TIED CARD OF 'pantrylaw01.DigitStretch'. -/
def digitStretchCard : Claim7 := { stood := { row := digitStretchRow, standIns := [], harness := (true, "d3362ab7993565993083f82dc4819efbe2a2f96b59249f8e4c5f1d76171cf70d"), looks := true }, kinds := [], alts := [], laidByText := true, laidKinds := [.data, .data, .data, .sentinel, .sentinel], laidTests := true, laidLooks := .later }
def DigitStretchCardSaid : Prop := Claim7.holds Tryd.pinned (.plain (OpenSpec.ofChange digitStretchSpec)) digitStretchCard

/-- THE TIED CARD OF 'pantrylaw01.DigitSums'. -/
def digitSumsCard : Claim7 := { stood := { row := digitSumsRow, standIns := [], harness := (true, "d3362ab7993565993083f82dc4819efbe2a2f96b59249f8e4c5f1d76171cf70d"), looks := true }, kinds := [], alts := [], laidByText := true, laidKinds := [.data, .data, .data, .sentinel, .sentinel], laidTests := true, laidLooks := .later }
def DigitSumsCardSaid : Prop := Claim7.holds Tryd.pinned (.plain (OpenSpec.ofChange digitSumsSpec)) digitSumsCard

/-- THE TIED CARD OF 'pantrylaw01.DigitKnown'. -/
def digitKnownCard : Claim7 := { stood := { row := digitKnownRow, standIns := [], harness := (true, "d3362ab7993565993083f82dc4819efbe2a2f96b59249f8e4c5f1d76171cf70d"), looks := true }, kinds := [], alts := [], laidByText := true, laidKinds := [.data, .data, .data, .sentinel, .sentinel], laidTests := true, laidLooks := .later }
def DigitKnownCardSaid : Prop := Claim7.holds Tryd.pinned (.plain (OpenSpec.ofChange digitKnownSpec)) digitKnownCard

/-- THE TIED CARD OF 'pantrylaw17.RequestQuotes'. -/
def requestQuotesCard : Claim7 := { stood := { row := requestQuotesRow, standIns := [], harness := (true, "d3362ab7993565993083f82dc4819efbe2a2f96b59249f8e4c5f1d76171cf70d"), looks := true }, kinds := [], alts := [], laidByText := true, laidKinds := [.data, .data, .data, .sentinel, .sentinel, .sentinel, .sentinel, .sentinel, .sentinel, .sentinel, .sentinel], laidTests := true, laidLooks := .later }
def RequestQuotesCardSaid : Prop := Claim7.holds Tryd.pinned (.plain (OpenSpec.ofChange requestQuotesSpec)) requestQuotesCard

/-- THE TIED CARD OF 'pantrylaw17.RequestBack'. -/
def requestBackCard : Claim7 := { stood := { row := requestBackRow, standIns := [], harness := (true, "d3362ab7993565993083f82dc4819efbe2a2f96b59249f8e4c5f1d76171cf70d"), looks := true }, kinds := [], alts := [], laidByText := true, laidKinds := [.data, .data, .data, .sentinel, .sentinel, .sentinel, .sentinel, .sentinel, .sentinel, .sentinel, .sentinel], laidTests := true, laidLooks := .later }
def RequestBackCardSaid : Prop := Claim7.holds Tryd.pinned (.plain (OpenSpec.ofChange requestBackSpec)) requestBackCard

/-- THE TIED CARD OF 'pantrylaw16.ReplyBack'. -/
def replyBackCard : Claim7 := { stood := { row := replyBackRow, standIns := [], harness := (true, "d3362ab7993565993083f82dc4819efbe2a2f96b59249f8e4c5f1d76171cf70d"), looks := true }, kinds := [], alts := [], laidByText := true, laidKinds := [.data, .data, .data, .data, .sentinel, .sentinel, .pinned], laidTests := true, laidLooks := .later }
def ReplyBackCardSaid : Prop := Claim7.holds Tryd.pinned (.plain (OpenSpec.ofChange replyBackSpec)) replyBackCard

/-- THE TIED CARD OF 'pantrylaw16.ReplyForm'. -/
def replyFormCard : Claim7 := { stood := { row := replyFormRow, standIns := [], harness := (true, "d3362ab7993565993083f82dc4819efbe2a2f96b59249f8e4c5f1d76171cf70d"), looks := true }, kinds := [], alts := [], laidByText := true, laidKinds := [.data, .data, .data, .data, .sentinel, .sentinel, .pinned], laidTests := true, laidLooks := .later }
def ReplyFormCardSaid : Prop := Claim7.holds Tryd.pinned (.plain (OpenSpec.ofChange replyFormSpec)) replyFormCard

/-- THE SECOND FORM's CARD OF 'pantrylaw01.DigitWrites'. -/
def digitWritesUptoCard : Claim7 := { stood := { row := digitWritesUptoRow, standIns := [], harness := (true, "d3362ab7993565993083f82dc4819efbe2a2f96b59249f8e4c5f1d76171cf70d"), looks := true }, kinds := [], alts := [], laidByText := true, laidKinds := [.data, .data, .data], laidTests := true, laidLooks := .later }
def DigitWritesUptoCardSaid : Prop := Claim7.holds Tryd.pinned (.plain (OpenSpec.upto digitWritesSpec)) digitWritesUptoCard

/-- THE SECOND FORM's CARD OF 'pantrylaw16.ReplyCommands'. -/
def replyCommandsUptoCard : Claim7 := { stood := { row := replyCommandsUptoRow, standIns := [], harness := (true, "d3362ab7993565993083f82dc4819efbe2a2f96b59249f8e4c5f1d76171cf70d"), looks := true }, kinds := [], alts := [], laidByText := true, laidKinds := [.data, .data, .data, .data, .sentinel, .sentinel, .pinned], laidTests := true, laidLooks := .later }
def ReplyCommandsUptoCardSaid : Prop := Claim7.holds Tryd.pinned (.plain (OpenSpec.upto replyCommandsSpec)) replyCommandsUptoCard

/-- THE SECOND FORM's CARD OF 'pantrylaw16.ReplyWrites'. -/
def replyWritesUptoCard : Claim7 := { stood := { row := replyWritesUptoRow, standIns := [], harness := (true, "d3362ab7993565993083f82dc4819efbe2a2f96b59249f8e4c5f1d76171cf70d"), looks := true }, kinds := [], alts := [], laidByText := true, laidKinds := [.data, .data, .data], laidTests := true, laidLooks := .later }
def ReplyWritesUptoCardSaid : Prop := Claim7.holds Tryd.pinned (.plain (OpenSpec.upto replyWritesSpec)) replyWritesUptoCard

/-- THE SECOND FORM's CARD OF 'pantrylaw01.DigitReads'. -/
def digitReadsUptoCard : Claim7 := { stood := { row := digitReadsUptoRow, standIns := [], harness := (true, "d3362ab7993565993083f82dc4819efbe2a2f96b59249f8e4c5f1d76171cf70d"), looks := true }, kinds := [], alts := [], laidByText := true, laidKinds := [.data, .data, .data, .sentinel, .sentinel], laidTests := true, laidLooks := .later }
def DigitReadsUptoCardSaid : Prop := Claim7.holds Tryd.pinned (.plain (OpenSpec.upto digitReadsSpec)) digitReadsUptoCard

/-- THE SECOND FORM's CARD OF 'pantrylaw16.ReplyMakes'. -/
def replyMakesUptoCard : Claim7 := { stood := { row := replyMakesUptoRow, standIns := [], harness := (true, "d3362ab7993565993083f82dc4819efbe2a2f96b59249f8e4c5f1d76171cf70d"), looks := true }, kinds := [], alts := [], laidByText := true, laidKinds := [.data, .data, .data, .data, .pinned], laidTests := true, laidLooks := .later }
def ReplyMakesUptoCardSaid : Prop := Claim7.holds Tryd.pinned (.plain (OpenSpec.upto replyMakesSpec)) replyMakesUptoCard

/-- THE SECOND FORM's CARD OF 'pantrylaw01.DigitBack'. -/
def digitBackUptoCard : Claim7 := { stood := { row := digitBackUptoRow, standIns := [], harness := (true, "d3362ab7993565993083f82dc4819efbe2a2f96b59249f8e4c5f1d76171cf70d"), looks := true }, kinds := [], alts := [], laidByText := true, laidKinds := [.data, .data, .data, .sentinel, .sentinel], laidTests := true, laidLooks := .later }
def DigitBackUptoCardSaid : Prop := Claim7.holds Tryd.pinned (.plain (OpenSpec.upto digitBackSpec)) digitBackUptoCard

/-- THE SECOND FORM's CARD OF 'pantrylaw01.DigitStretch'. -/
def digitStretchUptoCard : Claim7 := { stood := { row := digitStretchUptoRow, standIns := [], harness := (true, "d3362ab7993565993083f82dc4819efbe2a2f96b59249f8e4c5f1d76171cf70d"), looks := true }, kinds := [], alts := [], laidByText := true, laidKinds := [.data, .data, .data, .sentinel, .sentinel], laidTests := true, laidLooks := .later }
def DigitStretchUptoCardSaid : Prop := Claim7.holds Tryd.pinned (.plain (OpenSpec.upto digitStretchSpec)) digitStretchUptoCard

/-- THE SECOND FORM's CARD OF 'pantrylaw01.DigitSums'. -/
def digitSumsUptoCard : Claim7 := { stood := { row := digitSumsUptoRow, standIns := [], harness := (true, "d3362ab7993565993083f82dc4819efbe2a2f96b59249f8e4c5f1d76171cf70d"), looks := true }, kinds := [], alts := [], laidByText := true, laidKinds := [.data, .data, .data, .sentinel, .sentinel], laidTests := true, laidLooks := .later }
def DigitSumsUptoCardSaid : Prop := Claim7.holds Tryd.pinned (.plain (OpenSpec.upto digitSumsSpec)) digitSumsUptoCard

/-- THE SECOND FORM's CARD OF 'pantrylaw01.DigitKnown'. -/
def digitKnownUptoCard : Claim7 := { stood := { row := digitKnownUptoRow, standIns := [], harness := (true, "d3362ab7993565993083f82dc4819efbe2a2f96b59249f8e4c5f1d76171cf70d"), looks := true }, kinds := [], alts := [], laidByText := true, laidKinds := [.data, .data, .data, .sentinel, .sentinel], laidTests := true, laidLooks := .later }
def DigitKnownUptoCardSaid : Prop := Claim7.holds Tryd.pinned (.plain (OpenSpec.upto digitKnownSpec)) digitKnownUptoCard

/-- THE SECOND FORM's CARD OF 'pantrylaw17.RequestQuotes'. -/
def requestQuotesUptoCard : Claim7 := { stood := { row := requestQuotesUptoRow, standIns := [], harness := (true, "d3362ab7993565993083f82dc4819efbe2a2f96b59249f8e4c5f1d76171cf70d"), looks := true }, kinds := [], alts := [], laidByText := true, laidKinds := [.data, .data, .data, .sentinel, .sentinel, .sentinel, .sentinel, .sentinel, .sentinel, .sentinel, .sentinel], laidTests := true, laidLooks := .later }
def RequestQuotesUptoCardSaid : Prop := Claim7.holds Tryd.pinned (.plain (OpenSpec.upto requestQuotesSpec)) requestQuotesUptoCard

/-- THE SECOND FORM's CARD OF 'pantrylaw17.RequestBack'. -/
def requestBackUptoCard : Claim7 := { stood := { row := requestBackUptoRow, standIns := [], harness := (true, "d3362ab7993565993083f82dc4819efbe2a2f96b59249f8e4c5f1d76171cf70d"), looks := true }, kinds := [], alts := [], laidByText := true, laidKinds := [.data, .data, .data, .sentinel, .sentinel, .sentinel, .sentinel, .sentinel, .sentinel, .sentinel, .sentinel], laidTests := true, laidLooks := .later }
def RequestBackUptoCardSaid : Prop := Claim7.holds Tryd.pinned (.plain (OpenSpec.upto requestBackSpec)) requestBackUptoCard

/-- THE SECOND FORM's CARD OF 'pantrylaw16.ReplyBack'. -/
def replyBackUptoCard : Claim7 := { stood := { row := replyBackUptoRow, standIns := [], harness := (true, "d3362ab7993565993083f82dc4819efbe2a2f96b59249f8e4c5f1d76171cf70d"), looks := true }, kinds := [], alts := [], laidByText := true, laidKinds := [.data, .data, .data, .data, .sentinel, .sentinel, .pinned], laidTests := true, laidLooks := .later }
def ReplyBackUptoCardSaid : Prop := Claim7.holds Tryd.pinned (.plain (OpenSpec.upto replyBackSpec)) replyBackUptoCard

/-- THE SECOND FORM's CARD OF 'pantrylaw16.ReplyForm'. -/
def replyFormUptoCard : Claim7 := { stood := { row := replyFormUptoRow, standIns := [], harness := (true, "d3362ab7993565993083f82dc4819efbe2a2f96b59249f8e4c5f1d76171cf70d"), looks := true }, kinds := [], alts := [], laidByText := true, laidKinds := [.data, .data, .data, .data, .sentinel, .sentinel, .pinned], laidTests := true, laidLooks := .later }
def ReplyFormUptoCardSaid : Prop := Claim7.holds Tryd.pinned (.plain (OpenSpec.upto replyFormSpec)) replyFormUptoCard
end Rows
end Go.Proofs.YtenacajpgpkdnaaDoor
