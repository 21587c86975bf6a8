/-
  No cell of these rows narrows 'for every input' (looked for: loops, veiled, ifaces, maps, wideKeys, modest, calm, conditions, laid).
  DERIVED. THE GIVEN ROWS OF THIS SEAT. 9 by the template 'for every input the law returns true; each argument reads behind the call as it read before'; 0 by the template 'total and deterministic' (their statements: YtenacajpgpkdnaaTotals.lean).
  GIVEN WITH THE SEED: the statements are not yours to turn. If you find one false, say at which input.
  Laid BY PROGRAM, IN A SANDBOX (cutbox-rows.mjs): the forced cells as the released guide's own fill.sh prints them over the translation 81cb671bb1169d80… (all of the seat's roots in one cut). By AI agents, Wed Nov 11 2026. No macro, syntax, notation, axiom, sorry.
-/
import Derived.Test.YtenacajpgpkdnaaChecked
import GoSem.Claim
import GoSem.ClaimJoined
import GoSem.ClaimMapViews
import Derived.JoinedTies
import Derived.KernelRfl
namespace Go.Proofs.Ytenacajpgpkdnaa
/- THE CELL 'sum', in the pinned program and in every row, IS THE sha256 OF THE DUMP (.gsa) THAT YtenacajpgpkdnaaProg.lean LOADS. Nothing in Lean hashes anything: it is a label: what it is worth is what the hold of that sum in a sandbox is worth. -/
noncomputable def Try.pinned : Pinned := { name := "ytenacajpgpkdnaa", sum := "81cb671bb1169d80123be87b429e55cb5ed7731dc99f46710d15f9f6dfee633f", checked := Try.checked }
namespace Rows
def none {H : Type} : Left H := { results := [], args := [] }

/-- 'pantrylaw01.DigitAdds': WHATEVER THE INPUT: true; the input reads as it did. -/
def digitAddsSpec : ChangeSpec := { name := "digitAdds", fn := fun _ => fun
  | [d1, d2] => { results := [.lit (.bool true)], args := [d1, d2] }
  | _ => none }
def digitAddsRow : OpenClaim := { program := "ytenacajpgpkdnaa", sum := "81cb671bb1169d80123be87b429e55cb5ed7731dc99f46710d15f9f6dfee633f", func := "pantry/pantrylaw01.DigitAdds", spec := "digitAdds", apart := false }
def DigitAddsSaid : Prop := digitAddsRow.holds Try.pinned (OpenSpec.ofChange digitAddsSpec)

/-- ITS FALSE NEIGHBOUR: 'it returns false'. Refute it at one input. -/
def digitAddsWrong : ChangeSpec := { name := "digitAdds", fn := fun _ => fun
  | [d1, d2] => { results := [.lit (.bool false)], args := [d1, d2] }
  | _ => none }
def DigitAddsWrongFalsely : Prop := digitAddsRow.holds Try.pinned (OpenSpec.ofChange digitAddsWrong)

/-- 'pantrylaw01.DigitSpans': WHATEVER THE INPUT: true; the input reads as it did. -/
def digitSpansSpec : ChangeSpec := { name := "digitSpans", fn := fun _ => fun
  | [d1, d2, d3] => { results := [.lit (.bool true)], args := [d1, d2, d3] }
  | _ => none }
def digitSpansRow : OpenClaim := { program := "ytenacajpgpkdnaa", sum := "81cb671bb1169d80123be87b429e55cb5ed7731dc99f46710d15f9f6dfee633f", func := "pantry/pantrylaw01.DigitSpans", spec := "digitSpans", apart := false }
def DigitSpansSaid : Prop := digitSpansRow.holds Try.pinned (OpenSpec.ofChange digitSpansSpec)

/-- ITS FALSE NEIGHBOUR: 'it returns false'. Refute it at one input. -/
def digitSpansWrong : ChangeSpec := { name := "digitSpans", fn := fun _ => fun
  | [d1, d2, d3] => { results := [.lit (.bool false)], args := [d1, d2, d3] }
  | _ => none }
def DigitSpansWrongFalsely : Prop := digitSpansRow.holds Try.pinned (OpenSpec.ofChange digitSpansWrong)

/-- 'pantrylaw08.PatchLays': WHATEVER THE INPUT: true; the input reads as it did. -/
def patchLaysSpec : ChangeSpec := { name := "patchLays", fn := fun _ => fun
  | [d1, d2, d3] => { results := [.lit (.bool true)], args := [d1, d2, d3] }
  | _ => none }
def patchLaysRow : OpenClaim := { program := "ytenacajpgpkdnaa", sum := "81cb671bb1169d80123be87b429e55cb5ed7731dc99f46710d15f9f6dfee633f", func := "pantry/pantrylaw08.PatchLays", spec := "patchLays", apart := false }
def PatchLaysSaid : Prop := patchLaysRow.holds Try.pinned (OpenSpec.ofChange patchLaysSpec)

/-- ITS FALSE NEIGHBOUR: 'it returns false'. Refute it at one input. -/
def patchLaysWrong : ChangeSpec := { name := "patchLays", fn := fun _ => fun
  | [d1, d2, d3] => { results := [.lit (.bool false)], args := [d1, d2, d3] }
  | _ => none }
def PatchLaysWrongFalsely : Prop := patchLaysRow.holds Try.pinned (OpenSpec.ofChange patchLaysWrong)

/-- 'pantrylaw08.PatchSlices': WHATEVER THE INPUT: true; the input reads as it did. -/
def patchSlicesSpec : ChangeSpec := { name := "patchSlices", fn := fun _ => fun
  | [d1, d2, d3] => { results := [.lit (.bool true)], args := [d1, d2, d3] }
  | _ => none }
def patchSlicesRow : OpenClaim := { program := "ytenacajpgpkdnaa", sum := "81cb671bb1169d80123be87b429e55cb5ed7731dc99f46710d15f9f6dfee633f", func := "pantry/pantrylaw08.PatchSlices", spec := "patchSlices", apart := false }
def PatchSlicesSaid : Prop := patchSlicesRow.holds Try.pinned (OpenSpec.ofChange patchSlicesSpec)

/-- ITS FALSE NEIGHBOUR: 'it returns false'. Refute it at one input. -/
def patchSlicesWrong : ChangeSpec := { name := "patchSlices", fn := fun _ => fun
  | [d1, d2, d3] => { results := [.lit (.bool false)], args := [d1, d2, d3] }
  | _ => none }
def PatchSlicesWrongFalsely : Prop := patchSlicesRow.holds Try.pinned (OpenSpec.ofChange patchSlicesWrong)

/-- 'pantrylaw08.PatchBits': WHATEVER THE INPUT: true; the input reads as it did. -/
def patchBitsSpec : ChangeSpec := { name := "patchBits", fn := fun _ => fun
  | [d1, d2, d3] => { results := [.lit (.bool true)], args := [d1, d2, d3] }
  | _ => none }
def patchBitsRow : OpenClaim := { program := "ytenacajpgpkdnaa", sum := "81cb671bb1169d80123be87b429e55cb5ed7731dc99f46710d15f9f6dfee633f", func := "pantry/pantrylaw08.PatchBits", spec := "patchBits", apart := false }
def PatchBitsSaid : Prop := patchBitsRow.holds Try.pinned (OpenSpec.ofChange patchBitsSpec)

/-- ITS FALSE NEIGHBOUR: 'it returns false'. Refute it at one input. -/
def patchBitsWrong : ChangeSpec := { name := "patchBits", fn := fun _ => fun
  | [d1, d2, d3] => { results := [.lit (.bool false)], args := [d1, d2, d3] }
  | _ => none }
def PatchBitsWrongFalsely : Prop := patchBitsRow.holds Try.pinned (OpenSpec.ofChange patchBitsWrong)

/-- 'pantrylaw08.PatchKeeps': WHATEVER THE INPUT: true; the input reads as it did. -/
def patchKeepsSpec : ChangeSpec := { name := "patchKeeps", fn := fun _ => fun
  | [d1, d2, d3] => { results := [.lit (.bool true)], args := [d1, d2, d3] }
  | _ => none }
def patchKeepsRow : OpenClaim := { program := "ytenacajpgpkdnaa", sum := "81cb671bb1169d80123be87b429e55cb5ed7731dc99f46710d15f9f6dfee633f", func := "pantry/pantrylaw08.PatchKeeps", spec := "patchKeeps", apart := false }
def PatchKeepsSaid : Prop := patchKeepsRow.holds Try.pinned (OpenSpec.ofChange patchKeepsSpec)

/-- ITS FALSE NEIGHBOUR: 'it returns false'. Refute it at one input. -/
def patchKeepsWrong : ChangeSpec := { name := "patchKeeps", fn := fun _ => fun
  | [d1, d2, d3] => { results := [.lit (.bool false)], args := [d1, d2, d3] }
  | _ => none }
def PatchKeepsWrongFalsely : Prop := patchKeepsRow.holds Try.pinned (OpenSpec.ofChange patchKeepsWrong)

/-- 'pantrylaw08.PatchTurns': WHATEVER THE INPUT: true; the input reads as it did. -/
def patchTurnsSpec : ChangeSpec := { name := "patchTurns", fn := fun _ => fun
  | [d1, d2, d3, d4] => { results := [.lit (.bool true)], args := [d1, d2, d3, d4] }
  | _ => none }
def patchTurnsRow : OpenClaim := { program := "ytenacajpgpkdnaa", sum := "81cb671bb1169d80123be87b429e55cb5ed7731dc99f46710d15f9f6dfee633f", func := "pantry/pantrylaw08.PatchTurns", spec := "patchTurns", apart := false }
def PatchTurnsSaid : Prop := patchTurnsRow.holds Try.pinned (OpenSpec.ofChange patchTurnsSpec)

/-- ITS FALSE NEIGHBOUR: 'it returns false'. Refute it at one input. -/
def patchTurnsWrong : ChangeSpec := { name := "patchTurns", fn := fun _ => fun
  | [d1, d2, d3, d4] => { results := [.lit (.bool false)], args := [d1, d2, d3, d4] }
  | _ => none }
def PatchTurnsWrongFalsely : Prop := patchTurnsRow.holds Try.pinned (OpenSpec.ofChange patchTurnsWrong)

/-- 'pantrylaw08.PatchKnown': WHATEVER THE INPUT: true; the input reads as it did. -/
def patchKnownSpec : ChangeSpec := { name := "patchKnown", fn := fun _ => fun
  | [] => { results := [.lit (.bool true)], args := [] }
  | _ => none }
def patchKnownRow : OpenClaim := { program := "ytenacajpgpkdnaa", sum := "81cb671bb1169d80123be87b429e55cb5ed7731dc99f46710d15f9f6dfee633f", func := "pantry/pantrylaw08.PatchKnown", spec := "patchKnown", apart := false }
def PatchKnownSaid : Prop := patchKnownRow.holds Try.pinned (OpenSpec.ofChange patchKnownSpec)

/-- ITS FALSE NEIGHBOUR: 'it returns false'. Refute it at one input. -/
def patchKnownWrong : ChangeSpec := { name := "patchKnown", fn := fun _ => fun
  | [] => { results := [.lit (.bool false)], args := [] }
  | _ => none }
def PatchKnownWrongFalsely : Prop := patchKnownRow.holds Try.pinned (OpenSpec.ofChange patchKnownWrong)

/-- 'pantrylaw08.PatchCounts': WHATEVER THE INPUT: true; the input reads as it did. -/
def patchCountsSpec : ChangeSpec := { name := "patchCounts", fn := fun _ => fun
  | [d1, d2] => { results := [.lit (.bool true)], args := [d1, d2] }
  | _ => none }
def patchCountsRow : OpenClaim := { program := "ytenacajpgpkdnaa", sum := "81cb671bb1169d80123be87b429e55cb5ed7731dc99f46710d15f9f6dfee633f", func := "pantry/pantrylaw08.PatchCounts", spec := "patchCounts", apart := false }
def PatchCountsSaid : Prop := patchCountsRow.holds Try.pinned (OpenSpec.ofChange patchCountsSpec)

/-- ITS FALSE NEIGHBOUR: 'it returns false'. Refute it at one input. -/
def patchCountsWrong : ChangeSpec := { name := "patchCounts", fn := fun _ => fun
  | [d1, d2] => { results := [.lit (.bool false)], args := [d1, d2] }
  | _ => none }
def PatchCountsWrongFalsely : Prop := patchCountsRow.holds Try.pinned (OpenSpec.ofChange patchCountsWrong)

/- THE SECOND FORM. 'bulk': how many values and letters a reading holds, each counted each time it is reached (what is shared counts as often as it is met; a slice's spare places count too). A statement '..UptoSaid' is the law's where the arguments, and the package variables that the reading takes, are together of bulk at most 1048576: NARROWER than '..Said'. Prove '..Said' where nothing that the law and all that it calls make is longer than what came in: it says more and counts as full. Else prove '..UptoSaid'. A law counts once. -/
mutual
def uptoBulk {H : Type} : DataW H → Nat
  | .lit (.string bytes) => bytes.length + 1
  | .lit _ => 1
  | .nil => 1
  | .ptr d => uptoBulk d + 1
  | .slice elems spare => uptoBulkAll elems + uptoBulkAll spare + 1
  | .agg parts => uptoBulkAll parts + 1
  | .iface _ d => uptoBulk d + 1
  | .map entries => uptoBulkEntries entries + 1
  | .held _ => 1
def uptoBulkAll {H : Type} : List (DataW H) → Nat
  | [] => 0
  | d :: r => uptoBulk d + uptoBulkAll r
def uptoBulkEntries {H : Type} : List (Lit × DataW H) → Nat
  | [] => 0
  | x :: r => uptoBulkEntry x + uptoBulkEntries r
def uptoBulkEntry {H : Type} : Lit × DataW H → Nat
  | (.string bytes, d) => bytes.length + uptoBulk d + 1
  | (_, d) => uptoBulk d + 1
 end
def uptoSmall : (H : Type) → List (DataW H) → Bool := fun _ ds => decide (uptoBulkAll ds ≤ 1048576)
def OpenSpec.upto (s : _root_.Go.ChangeSpec) : _root_.Go.OpenSpec := { _root_.Go.OpenSpec.ofChange s with cond := some uptoSmall }

/-- 'pantrylaw01.DigitAdds', WHERE WHAT IT READS IS OF BULK AT MOST 1048576: true; the input reads as it did. -/
def digitAddsUptoRow : OpenClaim := { program := "ytenacajpgpkdnaa", sum := "81cb671bb1169d80123be87b429e55cb5ed7731dc99f46710d15f9f6dfee633f", func := "pantry/pantrylaw01.DigitAdds", spec := "digitAdds", apart := false, narrowed := true }
def DigitAddsUptoSaid : Prop := digitAddsUptoRow.holds Try.pinned (OpenSpec.upto digitAddsSpec)

/-- 'pantrylaw01.DigitSpans', WHERE WHAT IT READS IS OF BULK AT MOST 1048576: true; the input reads as it did. -/
def digitSpansUptoRow : OpenClaim := { program := "ytenacajpgpkdnaa", sum := "81cb671bb1169d80123be87b429e55cb5ed7731dc99f46710d15f9f6dfee633f", func := "pantry/pantrylaw01.DigitSpans", spec := "digitSpans", apart := false, narrowed := true }
def DigitSpansUptoSaid : Prop := digitSpansUptoRow.holds Try.pinned (OpenSpec.upto digitSpansSpec)

/-- 'pantrylaw08.PatchLays', WHERE WHAT IT READS IS OF BULK AT MOST 1048576: true; the input reads as it did. -/
def patchLaysUptoRow : OpenClaim := { program := "ytenacajpgpkdnaa", sum := "81cb671bb1169d80123be87b429e55cb5ed7731dc99f46710d15f9f6dfee633f", func := "pantry/pantrylaw08.PatchLays", spec := "patchLays", apart := false, narrowed := true }
def PatchLaysUptoSaid : Prop := patchLaysUptoRow.holds Try.pinned (OpenSpec.upto patchLaysSpec)

/-- 'pantrylaw08.PatchSlices', WHERE WHAT IT READS IS OF BULK AT MOST 1048576: true; the input reads as it did. -/
def patchSlicesUptoRow : OpenClaim := { program := "ytenacajpgpkdnaa", sum := "81cb671bb1169d80123be87b429e55cb5ed7731dc99f46710d15f9f6dfee633f", func := "pantry/pantrylaw08.PatchSlices", spec := "patchSlices", apart := false, narrowed := true }
def PatchSlicesUptoSaid : Prop := patchSlicesUptoRow.holds Try.pinned (OpenSpec.upto patchSlicesSpec)

/-- 'pantrylaw08.PatchBits', WHERE WHAT IT READS IS OF BULK AT MOST 1048576: true; the input reads as it did. -/
def patchBitsUptoRow : OpenClaim := { program := "ytenacajpgpkdnaa", sum := "81cb671bb1169d80123be87b429e55cb5ed7731dc99f46710d15f9f6dfee633f", func := "pantry/pantrylaw08.PatchBits", spec := "patchBits", apart := false, narrowed := true }
def PatchBitsUptoSaid : Prop := patchBitsUptoRow.holds Try.pinned (OpenSpec.upto patchBitsSpec)

/-- 'pantrylaw08.PatchKeeps', WHERE WHAT IT READS IS OF BULK AT MOST 1048576: true; the input reads as it did. -/
def patchKeepsUptoRow : OpenClaim := { program := "ytenacajpgpkdnaa", sum := "81cb671bb1169d80123be87b429e55cb5ed7731dc99f46710d15f9f6dfee633f", func := "pantry/pantrylaw08.PatchKeeps", spec := "patchKeeps", apart := false, narrowed := true }
def PatchKeepsUptoSaid : Prop := patchKeepsUptoRow.holds Try.pinned (OpenSpec.upto patchKeepsSpec)

/-- 'pantrylaw08.PatchTurns', WHERE WHAT IT READS IS OF BULK AT MOST 1048576: true; the input reads as it did. -/
def patchTurnsUptoRow : OpenClaim := { program := "ytenacajpgpkdnaa", sum := "81cb671bb1169d80123be87b429e55cb5ed7731dc99f46710d15f9f6dfee633f", func := "pantry/pantrylaw08.PatchTurns", spec := "patchTurns", apart := false, narrowed := true }
def PatchTurnsUptoSaid : Prop := patchTurnsUptoRow.holds Try.pinned (OpenSpec.upto patchTurnsSpec)

/-- 'pantrylaw08.PatchKnown', WHERE WHAT IT READS IS OF BULK AT MOST 1048576: true; the input reads as it did. -/
def patchKnownUptoRow : OpenClaim := { program := "ytenacajpgpkdnaa", sum := "81cb671bb1169d80123be87b429e55cb5ed7731dc99f46710d15f9f6dfee633f", func := "pantry/pantrylaw08.PatchKnown", spec := "patchKnown", apart := false, narrowed := true }
def PatchKnownUptoSaid : Prop := patchKnownUptoRow.holds Try.pinned (OpenSpec.upto patchKnownSpec)

/-- 'pantrylaw08.PatchCounts', WHERE WHAT IT READS IS OF BULK AT MOST 1048576: true; the input reads as it did. -/
def patchCountsUptoRow : OpenClaim := { program := "ytenacajpgpkdnaa", sum := "81cb671bb1169d80123be87b429e55cb5ed7731dc99f46710d15f9f6dfee633f", func := "pantry/pantrylaw08.PatchCounts", spec := "patchCounts", apart := false, narrowed := true }
def PatchCountsUptoSaid : Prop := patchCountsUptoRow.holds Try.pinned (OpenSpec.upto patchCountsSpec)

end Rows
end Go.Proofs.Ytenacajpgpkdnaa
