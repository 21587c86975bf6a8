/- DERIVED: THE SHELF's CONTRACTS AT THIS DUMP, IN PLAIN WORDS (tools/lay-plain.mjs out of 'TryzPick.lean', which tools/lay-shelf.mjs wrote): THE SAME DECLARATIONS UNDER THE SAME NAMES: 'import', 'namespace', 'open', 'def', 'theorem' AND NOTHING ELSE: no command of the shelf's: FOR A HAND-IN. Each laying: the table of numbers ('.._ren') and one theorem, a field a fact of the dump's own or the kernel's comparison; each contract: ONE APPLICATION. strings.ContainsAny(s, "\r\n") at every text. Conditions stand in each law. Replies that may be: their bytes, their depth; reply's lay. Conditions stand in each law. Conditions stand in each law. -/
import Derived.Shelf.Small.Utf8
import Derived.Shelf.Small.Strs
import Derived.Shelf.Strings.Runes
import Derived.Shelf.Strings.IndexAnyAll
import Derived.Shelf.Strings.SplitShaped
import Derived.Ground.MpProg
import Derived.Test.YtgpbgldnaongnaaGreatDoorProg
import Derived.Test.YtgpbgldnaongnaaGreatDoorBuWireOut1
import Derived.Laws.RangeAny
import Derived.Lib.OthersKept
import Derived.BigQuiet
import Derived.WalkMore
import Derived.BigRegion
import Derived.Test.YtgpbgldnaongnaaGreatDoorBuWireOut6
namespace Go.Proofs
open Go.Shelf
def Tryz.lays119_ren : Go.Shelf.Ren := ⟨fun | 119 => 60 | n => n, fun | 21 => 21 | 4 => 4 | n => n, fun | n => n⟩
theorem Tryz.lays119 : Go.Proofs.Lays.n119 Tryz.prog Tryz.lays119_ren := {
  mixed := by kernel_rfl
  f119 := Tryz.func60.trans (congrArg some (by kernel_rfl))
  t4 := Tryz.underlying4
  a4 := Tryz.isAgg4
  z4 := Tryz.sizeOf4
  v4 := Tryz.zeroValue4
  t21 := Tryz.underlying21
  a21 := Tryz.isAgg21
  z21 := Tryz.sizeOf21
  v21 := Tryz.zeroValue21 }
/-- utf8.ValidRune: "ValidRune reports whether r can be legally encoded as UTF-8. Code points that are out of range or a surrogate half are illegal.": IT RETURNS 'Lib.validRune r'; the world is as it was. (LAID: no walk: one application.) -/
theorem Tryz.utf8_ValidRune (r : Int) (w : World) :
    Calls Tryz.prog 60 #[.int .i32 r] w fun e w' => e = .returned (.bool (Lib.validRune r)) ∧ w' = w := Any.utf8_ValidRune Tryz.lays119 r w
def Tryz.lays137_ren : Go.Shelf.Ren := ⟨fun | 137 => 59 | 217 => 80 | 266 => 94 | n => n, fun | 9 => 9 | 5 => 5 | 3 => 3 | n => n, fun | n => n⟩
theorem Tryz.lays137 : Go.Proofs.Lays.n137 Tryz.prog Tryz.lays137_ren := {
  mixed := by kernel_rfl
  f137 := Tryz.func59.trans (congrArg some (by kernel_rfl))
  f217 := Tryz.func80.trans (congrArg some (by kernel_rfl))
  f266 := Tryz.func94.trans (congrArg some (by kernel_rfl))
  t3 := Tryz.underlying3
  a3 := Tryz.isAgg3
  z3 := Tryz.sizeOf3
  v3 := Tryz.zeroValue3
  t5 := Tryz.underlying5
  a5 := Tryz.isAgg5
  z5 := Tryz.sizeOf5
  v5 := Tryz.zeroValue5
  t9 := Tryz.underlying9
  a9 := Tryz.isAgg9
  z9 := Tryz.sizeOf9
  v9 := Tryz.zeroValue9 }
open Go.RowKit in
/-- strings.IndexByte: "IndexByte returns the index of the first instance of c in s, or -1 if c is not present in s.": IT RETURNS 'Lib.indexByte s c'; the world is as it was. (LAID: no walk: one application.) -/
theorem Tryz.strings_IndexByte (s : ByteArray) (c : Int) (w : World) :
    Calls Tryz.prog 59 #[.string s, .int .u8 c] w fun e w' => e = .returned (.int .i64 (Lib.indexByte s.data.toList c.toNat.toUInt8)) ∧ w' = w := Any.strings_IndexByte Tryz.lays137 s c w
def Tryz.lays155_ren : Go.Shelf.Ren := ⟨fun | 155 => 34 | 154 => 43 | 138 => 53 | 165 => 54 | 143 => 55 | 166 => 56 | 197 => 57 | 169 => 58 | 195 => 74 | 218 => 75 | 240 => 76 | 241 => 77 | 219 => 78 | 260 => 79 | 276 => 91 | 277 => 92 | 217 => 80 | 225 => 62 | 224 => 61 | 267 => 93 | 266 => 94 | 314 => 99 | n => n, fun | 9 => 9 | 3 => 3 | 4 => 4 | 72 => 103 | 0 => 0 | 76 => 105 | 105 => 107 | 21 => 21 | 5 => 5 | 70 => 101 | 20 => 20 | 37 => 23 | 75 => 60 | 127 => 129 | 164 => 139 | 46 => 113 | 119 => 142 | 139 => 145 | 138 => 144 | 146 => 148 | 51 => 132 | 80 => 109 | n => n, fun | 1 => 6 | 3 => 8 | 4 => 9 | n => n⟩
theorem Tryz.lays155 : Go.Proofs.Lays.n155 Tryz.prog Tryz.lays155_ren := {
  mixed := by kernel_rfl
  f138 := Tryz.func53.trans (congrArg some (by kernel_rfl))
  f143 := Tryz.func55.trans (congrArg some (by kernel_rfl))
  f154 := Tryz.func43.trans (congrArg some (by kernel_rfl))
  f155 := Tryz.func34.trans (congrArg some (by kernel_rfl))
  f165 := Tryz.func54.trans (congrArg some (by kernel_rfl))
  f166 := Tryz.func56.trans (congrArg some (by kernel_rfl))
  f169 := Tryz.func58.trans (congrArg some (by kernel_rfl))
  f195 := Tryz.func74.trans (congrArg some (by kernel_rfl))
  f197 := Tryz.func57.trans (congrArg some (by kernel_rfl))
  f217 := Tryz.func80.trans (congrArg some (by kernel_rfl))
  f218 := Tryz.func75.trans (congrArg some (by kernel_rfl))
  f219 := Tryz.func78.trans (congrArg some (by kernel_rfl))
  f224 := Tryz.func61.trans (congrArg some (by kernel_rfl))
  f225 := Tryz.func62.trans (congrArg some (by kernel_rfl))
  f240 := Tryz.func76.trans (congrArg some (by kernel_rfl))
  f241 := Tryz.func77.trans (congrArg some (by kernel_rfl))
  f260 := Tryz.func79.trans (congrArg some (by kernel_rfl))
  f266 := Tryz.func94.trans (congrArg some (by kernel_rfl))
  f267 := Tryz.func93.trans (congrArg some (by kernel_rfl))
  f276 := Tryz.func91.trans (congrArg some (by kernel_rfl))
  f277 := Tryz.func92.trans (congrArg some (by kernel_rfl))
  f314 := Tryz.func99.trans (congrArg some (by kernel_rfl))
  t0 := Tryz.underlying0
  a0 := Tryz.isAgg0
  z0 := Tryz.sizeOf0
  v0 := Tryz.zeroValue0
  t3 := Tryz.underlying3
  a3 := Tryz.isAgg3
  z3 := Tryz.sizeOf3
  v3 := Tryz.zeroValue3
  t4 := Tryz.underlying4
  a4 := Tryz.isAgg4
  z4 := Tryz.sizeOf4
  v4 := Tryz.zeroValue4
  t5 := Tryz.underlying5
  a5 := Tryz.isAgg5
  z5 := Tryz.sizeOf5
  v5 := Tryz.zeroValue5
  t9 := Tryz.underlying9
  a9 := Tryz.isAgg9
  z9 := Tryz.sizeOf9
  v9 := Tryz.zeroValue9
  t20 := Tryz.underlying20
  a20 := Tryz.isAgg20
  z20 := Tryz.sizeOf20
  v20 := Tryz.zeroValue20
  t21 := Tryz.underlying21
  a21 := Tryz.isAgg21
  z21 := Tryz.sizeOf21
  v21 := Tryz.zeroValue21
  t37 := Tryz.underlying23
  a37 := Tryz.isAgg23
  z37 := Tryz.sizeOf23
  v37 := Tryz.zeroValue23
  t46 := Tryz.underlying113
  a46 := Tryz.isAgg113
  z46 := Tryz.sizeOf113
  v46 := Tryz.zeroValue113
  t51 := Tryz.underlying132
  a51 := Tryz.isAgg132
  z51 := Tryz.sizeOf132
  v51 := Tryz.zeroValue132
  t70 := Tryz.underlying101
  a70 := Tryz.isAgg101
  z70 := Tryz.sizeOf101
  v70 := Tryz.zeroValue101
  t72 := Tryz.underlying103
  a72 := Tryz.isAgg103
  z72 := Tryz.sizeOf103
  v72 := Tryz.zeroValue103
  t75 := Tryz.underlying60
  a75 := Tryz.isAgg60
  z75 := Tryz.sizeOf60
  v75 := Tryz.zeroValue60
  t76 := Tryz.underlying105
  a76 := Tryz.isAgg105
  z76 := Tryz.sizeOf105
  v76 := Tryz.zeroValue105
  t105 := Tryz.underlying107
  a105 := Tryz.isAgg107
  z105 := Tryz.sizeOf107
  v105 := Tryz.zeroValue107
  t119 := Tryz.underlying142
  a119 := Tryz.isAgg142
  z119 := Tryz.sizeOf142
  t127 := Tryz.underlying129
  a127 := Tryz.isAgg129
  z127 := Tryz.sizeOf129
  v127 := Tryz.zeroValue129
  t138 := Tryz.underlying144
  a138 := Tryz.isAgg144
  z138 := Tryz.sizeOf144
  v138 := Tryz.zeroValue144
  t139 := Tryz.underlying145
  a139 := Tryz.isAgg145
  z139 := Tryz.sizeOf145
  v139 := Tryz.zeroValue145
  t146 := Tryz.underlying148
  a146 := Tryz.isAgg148
  z146 := Tryz.sizeOf148
  v146 := Tryz.zeroValue148
  t164 := Tryz.underlying139
  a164 := Tryz.isAgg139
  z164 := Tryz.sizeOf139
  v164 := Tryz.zeroValue139
  g1 := by kernel_rfl
  g3 := by kernel_rfl
  g4 := by kernel_rfl }
def Tryz.lays152_ren : Go.Shelf.Ren := ⟨fun | 152 => 44 | 137 => 59 | 119 => 60 | 224 => 61 | 225 => 62 | 217 => 80 | 266 => 94 | n => n, fun | 9 => 9 | 21 => 21 | 3 => 3 | 4 => 4 | 5 => 5 | 0 => 0 | 46 => 113 | n => n, fun | n => n⟩
theorem Tryz.lays152 : Go.Proofs.Lays.n152 Tryz.prog Tryz.lays152_ren := {
  mixed := by kernel_rfl
  f119 := Tryz.func60.trans (congrArg some (by kernel_rfl))
  f137 := Tryz.func59.trans (congrArg some (by kernel_rfl))
  f152 := Tryz.func44.trans (congrArg some (by kernel_rfl))
  f217 := Tryz.func80.trans (congrArg some (by kernel_rfl))
  f224 := Tryz.func61.trans (congrArg some (by kernel_rfl))
  f225 := Tryz.func62.trans (congrArg some (by kernel_rfl))
  f266 := Tryz.func94.trans (congrArg some (by kernel_rfl))
  t0 := Tryz.underlying0
  a0 := Tryz.isAgg0
  z0 := Tryz.sizeOf0
  v0 := Tryz.zeroValue0
  t3 := Tryz.underlying3
  a3 := Tryz.isAgg3
  z3 := Tryz.sizeOf3
  v3 := Tryz.zeroValue3
  t4 := Tryz.underlying4
  a4 := Tryz.isAgg4
  z4 := Tryz.sizeOf4
  v4 := Tryz.zeroValue4
  t5 := Tryz.underlying5
  a5 := Tryz.isAgg5
  z5 := Tryz.sizeOf5
  v5 := Tryz.zeroValue5
  t9 := Tryz.underlying9
  a9 := Tryz.isAgg9
  z9 := Tryz.sizeOf9
  v9 := Tryz.zeroValue9
  t21 := Tryz.underlying21
  a21 := Tryz.isAgg21
  z21 := Tryz.sizeOf21
  v21 := Tryz.zeroValue21
  t46 := Tryz.underlying113
  a46 := Tryz.isAgg113
  z46 := Tryz.sizeOf113
  v46 := Tryz.zeroValue113 }
open Go.RowKit Go.Lib in
theorem Tryz.strings_IndexRune_ascii (s : ByteArray) (r : Int) (w : World) (h0 : 0 ≤ r) (h1 : r < 128) :
    Calls Tryz.prog 44 #[.string s, .int .i32 r] w fun e w' => e = .returned (.int .i64 (Lib.indexByte s.data.toList r.toNat.toUInt8)) ∧ w' = w := Any.strings_IndexRune_ascii Tryz.lays152 s r w h0 h1
def Tryz.lays153_ren : Go.Shelf.Ren := ⟨fun | 153 => 35 | 152 => 44 | 226 => 45 | 227 => 46 | 228 => 47 | 137 => 59 | 119 => 60 | 224 => 61 | 225 => 62 | 217 => 80 | 266 => 94 | n => n, fun | 9 => 9 | 3 => 3 | 4 => 4 | 5 => 5 | 21 => 21 | 117 => 82 | 116 => 81 | 0 => 0 | 46 => 113 | 124 => 114 | n => n, fun | n => n⟩
theorem Tryz.lays153 : Go.Proofs.Lays.n153 Tryz.prog Tryz.lays153_ren := {
  mixed := by kernel_rfl
  f119 := Tryz.func60.trans (congrArg some (by kernel_rfl))
  f137 := Tryz.func59.trans (congrArg some (by kernel_rfl))
  f152 := Tryz.func44.trans (congrArg some (by kernel_rfl))
  f153 := Tryz.func35.trans (congrArg some (by kernel_rfl))
  f217 := Tryz.func80.trans (congrArg some (by kernel_rfl))
  f224 := Tryz.func61.trans (congrArg some (by kernel_rfl))
  f225 := Tryz.func62.trans (congrArg some (by kernel_rfl))
  f226 := Tryz.func45.trans (congrArg some (by kernel_rfl))
  f227 := Tryz.func46.trans (congrArg some (by kernel_rfl))
  f228 := Tryz.func47.trans (congrArg some (by kernel_rfl))
  f266 := Tryz.func94.trans (congrArg some (by kernel_rfl))
  t0 := Tryz.underlying0
  a0 := Tryz.isAgg0
  z0 := Tryz.sizeOf0
  v0 := Tryz.zeroValue0
  t3 := Tryz.underlying3
  a3 := Tryz.isAgg3
  z3 := Tryz.sizeOf3
  v3 := Tryz.zeroValue3
  t4 := Tryz.underlying4
  a4 := Tryz.isAgg4
  z4 := Tryz.sizeOf4
  v4 := Tryz.zeroValue4
  t5 := Tryz.underlying5
  a5 := Tryz.isAgg5
  z5 := Tryz.sizeOf5
  v5 := Tryz.zeroValue5
  t9 := Tryz.underlying9
  a9 := Tryz.isAgg9
  z9 := Tryz.sizeOf9
  v9 := Tryz.zeroValue9
  t21 := Tryz.underlying21
  a21 := Tryz.isAgg21
  z21 := Tryz.sizeOf21
  v21 := Tryz.zeroValue21
  t46 := Tryz.underlying113
  a46 := Tryz.isAgg113
  z46 := Tryz.sizeOf113
  v46 := Tryz.zeroValue113
  t116 := Tryz.underlying81
  a116 := Tryz.isAgg81
  z116 := Tryz.sizeOf81
  t117 := Tryz.underlying82
  a117 := Tryz.isAgg82
  z117 := Tryz.sizeOf82
  v117 := Tryz.zeroValue82
  t124 := Tryz.underlying114
  a124 := Tryz.isAgg114
  z124 := Tryz.sizeOf114
  v124 := Tryz.zeroValue114 }
open Go.RowKit Go.Lib in
theorem Tryz.strings_IndexAny_long (hv116 : ∀ w, (zeroValue 81).run Tryz.prog w = .ok (.agg (Array.replicate 256 (.bool false))) w) (s chars : ByteArray) (w : World) (h2 : 2 ≤ chars.size) (h8 : 8 < s.size) (hs : s.size < 4294967281) (hcs : chars.size < 4294967281) (hascii : ∀ (j : Nat) b, chars.data.toList[j]? = some b → b.toNat < 128) :
    Calls Tryz.prog 35 #[.string s, .string chars] w fun e w' => e = .returned (.int .i64 (Lib.indexAny s.data.toList chars.data.toList)) ∧ w' = ((w.alloc (.cells (Lib.setCells chars.data.toList) 81)).alloc (.cells (Lib.setCells chars.data.toList) 81)) := Any.strings_IndexAny_long Tryz.lays153 hv116 (by kernel_rfl) s chars w h2 h8 hs hcs hascii
end Go.Proofs

namespace Go.Proofs.YtgpbgldnaongnaaGreatDoor
open Go.RowKit
set_option maxRecDepth 20000

namespace Pl
/-- neither CR nor LF -/
def isEnd (c : UInt8) : Bool := c == 13 || c == 10
def noEnd (l : List UInt8) : Bool := l.all fun c => !isEnd c
theorem enc_hi (r : Int) (h : 128 ≤ r) : ∃ a b : UInt8, ∃ t : List UInt8, (Utf8.encode r).data.toList = a :: b :: t ∧ (t = [] → 128 ≤ b.toNat) ∧ t.length ≤ 2 := by
  unfold Utf8.encode
  obtain ⟨c, hc⟩ : ∃ c, c = (if Utf8.valid r then r.toNat else Utf8.runeError) := ⟨_, rfl⟩
  have h0 : 128 ≤ c := by rw [hc]; split <;> (try simp only [Utf8.runeError]) <;> omega
  simp only [← hc]
  rw [if_neg (by omega)]
  by_cases h1 : c < 0x800
  · rw [if_pos h1]
    refine ⟨_, _, [], rfl, fun _ => ?_, by simp⟩
    rw [UInt8.toNat_ofNat']
    omega
  · rw [if_neg h1]
    by_cases h2 : c < 0x10000
    · rw [if_pos h2]
      exact ⟨_, _, [_], rfl, fun e => by simp at e, by simp⟩
    · rw [if_neg h2]
      exact ⟨_, _, [_, _], rfl, fun e => by simp at e, by simp⟩
end Pl
/-- 'string(r)', r a rune -/
theorem Mm.wp_runestr {ops : Array Oper} {rest : List Oper} {o : Oper} {a : Act} {Q : Exit → Act → World → Prop} (w : World) (hgd : o.guard = none) (x : Operand) (ho : o.op = .convert 21 9 x)
    (r : Int) (E : ByteArray) (hE : E = Utf8.encode r) (hx : a.eval x = .int .i32 r) (hK : wpList Tryz.prog ops Q rest (a.put o.dst (.string E)) w) : wpList Tryz.prog ops Q (o :: rest) a w := by
  refine wpList_plain hgd fun K hK' => ?_
  have hrun : (convert 21 9 (.int .i32 r)).run Tryz.prog w = .ok (.string E) w := by
    rw [hE]
    simp [convert, Conv.intToString]
  unfold Oper.wp
  simp [execOp, ho, hx, hrun, Result.andThen]
  exact hK' _ _ hK

theorem indexByte_none (c : Int) (w : World) : Calls Tryz.prog 59 #[.string ByteArray.empty, .int .u8 c] w fun e w' => e = .returned (.int .i64 (-1)) ∧ w' = w := Tryz.strings_IndexByte _ _ _
set_option maxHeartbeats 4000000 in
theorem indexRune_hi (r : Int) (h0 : 128 ≤ r) (w : World) :
    Calls Tryz.prog 44 #[.string ⟨#[13, 10]⟩, .int .i32 r] w fun e w' => e = .returned (.int .i64 (-1)) ∧ Below w.heap.size w w' := by
  obtain ⟨a, b, t, hE, hb, ht⟩ := Pl.enc_hi r h0
  obtain ⟨E, hEE⟩ : ∃ E, E = Utf8.encode r := ⟨_, rfl⟩
  rw [← hEE] at hE
  have hn : ¬ r < 128 := by omega
  have hz : (0 : Int) ≤ r := by omega
  go_enter Tryz.func44, Tryz.ntmps44
  by_cases he : r = 65533
  · subst he
    clear hn
    go_wp2_with fail
    go_loopg [5, 6] 2 (fun g _ _ wx => ∃ i : Nat, i + g = 2 ∧ wx = w.iter ⟨#[13, 10]⟩ i)
    case atStart => exact ⟨0, by omega, rfl⟩
    case round =>
      obtain ⟨i, hig, rfl⟩ := hrel
      have hs2 : (⟨#[13, 10]⟩ : ByteArray).size = 2 := rfl
      cases gk with
      | zero =>
        obtain rfl : i = 2 := by omega
        have hnx := run_next_end (P := Tryz.prog) w ⟨#[13, 10]⟩ 2
        go_wp2
        go_ret
        exact ⟨rfl, (Below.refl _ _).alloc (Nat.le_refl _) _⟩
      | succ g =>
        rcases (show i = 0 ∨ i = 1 by omega) with rfl | rfl
        · have hnx := fun ty => run_next_ascii (P := Tryz.prog) w ⟨#[13, 10]⟩ 0 ty (by decide) (by decide)
          go_wp2
          go_roundg g
          case measure => omega
          case rel => exact ⟨_, by omega, rfl⟩
        · have hnx := fun ty => run_next_ascii (P := Tryz.prog) w ⟨#[13, 10]⟩ 1 ty (by decide) (by decide)
          go_wp2
          go_roundg g
          case measure => omega
          case rel => exact ⟨_, by omega, rfl⟩
  · have heb : (r == 65533) = false := beq_eq_false_iff_ne.2 he
    cases hv : Lib.validRune r
    · go_wp2_with (go_at_call 60; refine (Tryz.utf8_ValidRune r w).mono ?_; rintro e w' ⟨rfl, rfl⟩; rw [hv])
      go_ret
      exact ⟨rfl, Below.refl _ _⟩
    · go_wp2_with (go_at_call 60; refine (Tryz.utf8_ValidRune r w).mono ?_; rintro e w' ⟨rfl, rfl⟩; rw [hv])
      have HEE := Pl.hid hEE
      clear hEE
      have hsz : E.size = t.length + 2 := by
        have h1 : E.size = E.data.toList.length := by rw [Array.length_toList]; rfl
        rw [h1, hE]
        rfl
      have HT := Pl.hid hb
      clear hb
      go_step3
      go_wp2_with (refine Mm.wp_runestr _ rfl _ (by rfl) r E HEE.out (by rfl) ?_)
      go_loop [9] (fun iv => iv = .int .i64 ((t.length : Int) + 2 - 1)) (fun _ => 0)
      case atStart => rfl
      case round =>
        subst hrel
        have h13 : (⟨#[13, 10]⟩ : ByteArray).size = 2 := rfl
        cases t with
        | nil =>
          have hb' : 128 ≤ b.toNat := HT.out rfl
          have hE1 : ∀ h : 1 < E.size, E[1]'h = b := fun h => by
            rw [Pl.L_get E 1 h]
            unfold Pl.L
            rw [hE]
            rfl
          have hne : ((10 : Int) == (b.toNat : Int)) = false := beq_eq_false_iff_ne.2 (by omega)
          clear HT
          have hsz : E.size = 2 := hsz
          have h2 : (1 : Int) < 2 := by decide
          have hi1 : (1 : Nat) < E.size := by omega
          have hi2 : (1 : Nat) < (⟨#[13, 10]⟩ : ByteArray).size := by decide
          go_wp2_with fail
          go_step3
          go_wp2_with fail
          go_quiet (fail)
          have hg1 : (((⟨#[13, 10]⟩ : ByteArray)[1]'hi2).toNat : Int) = 10 := rfl
          have hne' : ((10 : Int) != (b.toNat : Int)) = true := bne_iff_ne.2 (by omega)
          simp only [hg1, hne'] 
          have h23 : (2 : Int) ≤ 2 := by decide
          go_wp2_with fail
          have hwr : IntKind.i64.wrap 2 = 2 := by decide
          go_quiet (first | rw [hwr] | (go_at_call 59; exact (indexByte_none _ _).mono fun e w2 h => ⟨h.1, _, h.2⟩))
          go_wp2_with fail
          simp +zetaDelta only [Exit.inBlock, Exit.then, Exit.noGoto_ret]
          go_ret
          exact ⟨rfl, Mm.below_drewN _ _⟩
        | cons c t =>
          simp only [List.length_cons] at hsz ht
          have hge : ¬ (((t.length + 1 : Nat) : Int) + 2 - 1 < 2) := by omega
          go_wp2_with fail
          go_ret
          exact ⟨rfl, Below.refl _ _⟩

namespace Pl
theorem idx2 (x : UInt8) : (isEnd x = true ∧ 0 ≤ Lib.indexByte [13, 10] x) ∨ (isEnd x = false ∧ Lib.indexByte [13, 10] x = -1) := by
  unfold isEnd
  by_cases h : x = 13
  · subst h; exact .inl ⟨rfl, by decide⟩
  · by_cases h' : x = 10
    · subst h'; exact .inl ⟨rfl, by decide⟩
    · refine .inr ⟨by simp [h, h'], ?_⟩
      have e1 : ((13 : UInt8) == x) = false := beq_eq_false_iff_ne.2 (fun e => h e.symm)
      have e2 : ((10 : UInt8) == x) = false := beq_eq_false_iff_ne.2 (fun e => h' e.symm)
      simp [Lib.indexByte, e1, e2]
theorem con2 (x : UInt8) : ([13, 10] : List UInt8).contains x = isEnd x := by
  unfold isEnd
  simp
  rfl
theorem any2 (l : List UInt8) : (noEnd l = true ∧ Lib.indexAny l [13, 10] = -1) ∨ (noEnd l = false ∧ 0 ≤ Lib.indexAny l [13, 10]) := by
  induction l with
  | nil => exact .inl ⟨rfl, rfl⟩
  | cons b l ih =>
    unfold noEnd at ih ⊢
    rw [List.all_cons, Lib.indexAny, con2]
    cases hb : isEnd b
    · rcases ih with ⟨h1, h2⟩ | ⟨h1, h2⟩
      · exact .inl ⟨by simp [h1], by simp [h2]⟩
      · refine .inr ⟨by simp [h1], ?_⟩
        have : (Lib.indexAny l [13, 10] == -1) = false := beq_eq_false_iff_ne.2 (by omega)
        simp [this]
        omega
    · exact .inr ⟨by simp, by simp⟩
theorem dec_span (s : ByteArray) (i : Nat) (h : i < s.size) (hh : 128 ≤ (s[i]'h).toNat) : i + (Utf8.decode s i).2 ≤ s.size ∧ ∀ j, i ≤ j → j < i + (Utf8.decode s i).2 → 128 ≤ (s.get! j).toNat := by
  have hg : s.get! i = s[i]'h := get_at s i h
  have hn : ¬ (s.get! (i + 0)).toNat < 128 := by rw [get_at s i h]; omega
  have e0 : 128 ≤ (s.get! i).toNat := by rw [hg]; exact hh
  have one : i + 1 ≤ s.size ∧ ∀ j, i ≤ j → j < i + 1 → 128 ≤ (s.get! j).toNat := ⟨by omega, fun j h1 h2 => by rw [show j = i by omega]; exact e0⟩
  have two : ∀ k, (i + k < s.size && (s.get! (i + k)).toNat / 64 == 2) = true → i + k < s.size ∧ 128 ≤ (s.get! (i + k)).toNat := fun k hk => by
    rw [Bool.and_eq_true, decide_eq_true_eq, beq_iff_eq] at hk
    exact ⟨hk.1, by omega⟩
  simp only [Utf8.decode, hn, if_false]
  split
  · rename_i hc
    rw [Bool.and_eq_true] at hc
    obtain ⟨a1, b1⟩ := two 1 hc.2
    split
    · refine ⟨by simp; omega, fun j h1 h2 => ?_⟩
      simp only at h2
      rcases (show j = i ∨ j = i + 1 by omega) with rfl | rfl
      · exact e0
      · exact b1
    · exact one
  · split
    · rename_i hc
      rw [Bool.and_eq_true, Bool.and_eq_true] at hc
      obtain ⟨a1, b1⟩ := two 1 hc.1.2
      obtain ⟨a2, b2⟩ := two 2 hc.2
      split
      · refine ⟨by simp; omega, fun j h1 h2 => ?_⟩
        simp only at h2
        rcases (show j = i ∨ j = i + 1 ∨ j = i + 2 by omega) with rfl | rfl | rfl
        · exact e0
        · exact b1
        · exact b2
      · exact one
    · split
      · rename_i hc
        rw [Bool.and_eq_true, Bool.and_eq_true, Bool.and_eq_true] at hc
        obtain ⟨a1, b1⟩ := two 1 hc.1.1.2
        obtain ⟨a2, b2⟩ := two 2 hc.1.2
        obtain ⟨a3, b3⟩ := two 3 hc.2
        split
        · refine ⟨by simp; omega, fun j h1 h2 => ?_⟩
          simp only at h2
          rcases (show j = i ∨ j = i + 1 ∨ j = i + 2 ∨ j = i + 3 by omega) with rfl | rfl | rfl | rfl
          · exact e0
          · exact b1
          · exact b2
          · exact b3
        · exact one
      · exact one
theorem get_bang (s : ByteArray) (j : Nat) (h : j < s.size) : s.get! j = (L s).getD j 0 := by
  rw [← L_get s j h]
  exact get_at s j h
/-- none of the first i bytes is CR or LF -/
def noE (l : List UInt8) (i : Nat) : Prop := ∀ j, j < i → isEnd (l.getD j 0) = false
theorem noE_all {l : List UInt8} {i : Nat} (h : noE l i) (hi : l.length ≤ i) : noEnd l = true := by
  unfold noEnd
  rw [List.all_eq_true]
  intro x hx
  obtain ⟨j, hj, rfl⟩ := List.getElem_of_mem hx
  have := h j (by omega)
  rw [List.getD_eq_getElem?_getD, List.getElem?_eq_getElem hj, Option.getD_some] at this
  rw [this]
  rfl
theorem noE_not {l : List UInt8} {i : Nat} (hi : i < l.length) (h : isEnd (l.getD i 0) = true) : noEnd l = false := by
  unfold noEnd
  rw [List.all_eq_false]
  refine ⟨l[i], List.getElem_mem hi, ?_⟩
  rw [List.getD_eq_getElem?_getD, List.getElem?_eq_getElem hi, Option.getD_some] at h
  rw [h]
  simp
theorem hi_isEnd (x : UInt8) (h : 128 ≤ x.toNat) : isEnd x = false := by
  unfold isEnd
  have h1 : x ≠ 13 := fun e => by subst e; exact absurd h (by decide)
  have h2 : x ≠ 10 := fun e => by subst e; exact absurd h (by decide)
  simp [h1, h2]
end Pl
theorem Mm.below_iterAt {B : Nat} {a w : World} (h : Below B a w) {k : Nat} (hk : B ≤ k) (s : ByteArray) (p : Nat) : Below B a (w.iterAt k s p) :=
  ⟨h.os, h.tape, h.output, by simp [World.iterAt]; exact h.size, fun g hg => by
    refine Eq.trans ?_ (h.block g hg)
    simp [World.iterAt, Array.getElem?_setIfInBounds]
    omega⟩

theorem indexRune_lo (x : UInt8) (h : x.toNat < 128) (w : World) : Calls Tryz.prog 44 #[.string ⟨#[13, 10]⟩, .int .i32 x.toNat] w fun e w' => e = .returned (.int .i64 (Lib.indexByte [13, 10] x)) ∧ w' = w := by
  refine (Tryz.strings_IndexRune_ascii ⟨#[13, 10]⟩ x.toNat w (by omega) (by omega)).mono ?_
  rintro e w' ⟨rfl, rfl⟩
  simp
theorem should_walk (n : Int) (w : World) : Calls Tryz.prog 45 #[.int .i64 n] w fun e w' => e = .returned (.bool (decide (8 < n))) ∧ w = w' := by
  go_enter Tryz.func45, Tryz.ntmps45
  go_wp2
  go_ret
  exact ⟨rfl, rfl⟩
set_option maxHeartbeats 4000000 in
theorem indexAny_short (s : ByteArray) (h8 : s.size ≤ 8) (w : World) :
    Calls Tryz.prog 35 #[.string s, .string ⟨#[13, 10]⟩] w fun e w' => (∃ n : Int, e = .returned (.int .i64 n) ∧ ((Pl.noEnd (Pl.L s) = true ∧ n = -1) ∨ (Pl.noEnd (Pl.L s) = false ∧ 0 ≤ n))) ∧ Below w.heap.size w w' := by
  have h8z : decide ((8 : Int) < (s.size : Int)) = false := decide_eq_false (by omega)
  go_enter Tryz.func35, Tryz.ntmps35
  go_wp2_with (go_at_call 45; refine (should_walk _ _).mono ?_; rintro e w' ⟨rfl, rfl⟩; rw [h8z])
  go_loopw [9, 10] (fun _ _ wx => ∃ i : Nat, Hid (wx.heap[w.heap.size]? = some (.stringIter s i)) ∧ i ≤ s.size ∧ Hid (Below w.heap.size w wx) ∧ Hid (Pl.noE (Pl.L s) i)) (fun _ _ wx => s.size - wx.iterPos w.heap.size)
  case atStart => exact ⟨0, heap_alloc_new w _, Nat.zero_le _, (Below.refl _ _).alloc (Nat.le_refl _) _, fun j hj => absurd hj (Nat.not_lt_zero _)⟩
  case round =>
    obtain ⟨i, HI, hi, HB, HN⟩ := hrel
    rcases Nat.lt_or_ge i s.size with hlt | hge
    · have hpos : wr.iterPos w.heap.size = i := by unfold World.iterPos; rw [HI.out]
      by_cases ha : (s[i]'hlt).toNat < 128
      · have hnx := fun ty => Lib.run_next_ascii_at (P := Tryz.prog) wr w.heap.size s i ty HI.out hlt ha
        have HLG : Hid ((Pl.L s).getD i 0 = s[i]'hlt) := (Pl.L_get s i hlt).symm
        obtain ⟨x, hx⟩ : ∃ x, s[i]'hlt = x := ⟨_, rfl⟩
        rw [hx] at hnx ha HLG
        clear hx
        have HX : Hid ((wr.iterAt w.heap.size s (i + 1)).heap[w.heap.size]? = some (.stringIter s (i + 1))) := Lib.iterAt_heap wr _ s i (i + 1) HI.out
        have HXB : Hid (Below w.heap.size w (wr.iterAt w.heap.size s (i + 1))) := Mm.below_iterAt HB.out (Nat.le_refl _) s (i + 1)
        generalize wr.iterAt w.heap.size s (i + 1) = wn at hnx HX HXB
        rcases Pl.idx2 x with ⟨hx1, hx2⟩ | ⟨hx1, hx2⟩
        · obtain ⟨N, hN⟩ : ∃ N, N = Lib.indexByte [13, 10] x := ⟨_, rfl⟩
          have hNN : 0 ≤ N := by rw [hN]; exact hx2
          have HN' := Pl.hid hN
          clear hN hx2
          go_wp2_with (go_at_call 44; refine (indexRune_lo x ha _).mono ?_; rintro e w' ⟨rfl, rfl⟩; rw [← HN'.out])
          go_ret
          refine ⟨⟨_, rfl, .inr ⟨Pl.noE_not (i := i) (by rw [Pl.L_length]; exact hlt) (by rw [HLG.out]; exact hx1), by omega⟩⟩, HXB.out⟩
        · have hlt1 : ¬ (0 : Int) ≤ -1 := by decide
          go_wp2_with (go_at_call 44; refine (indexRune_lo x ha _).mono ?_; rintro e w' ⟨rfl, rfl⟩; rw [hx2])
          go_roundw
          case rel =>
            refine ⟨i + 1, HX, hlt, HXB, fun j hj => ?_⟩
            rcases Nat.lt_or_ge j i with h | h
            · exact HN.out j h
            · rw [show j = i by omega, HLG.out]; exact hx1
          case measure => rw [hpos]; unfold World.iterPos; rw [HX.out]; simp only; omega
      · have hhi : 128 ≤ (s[i]'hlt).toNat := by omega
        have hnx := fun ty => Lib.run_next_any_at (P := Tryz.prog) wr w.heap.size s i ty HI.out hlt
        have HD := Pl.hid (Pl.dec_span s i hlt hhi)
        obtain ⟨hd1, hd2⟩ := decode_high s i hlt hhi
        have hd3 := decode_le s i
        have HX : Hid ((wr.iterAt w.heap.size s (i + (Utf8.decode s i).2)).heap[w.heap.size]? = some (.stringIter s (i + (Utf8.decode s i).2))) := Lib.iterAt_heap wr _ s i _ HI.out
        have HXB : Hid (Below w.heap.size w (wr.iterAt w.heap.size s (i + (Utf8.decode s i).2))) := Mm.below_iterAt HB.out (Nat.le_refl _) s _
        generalize wr.iterAt w.heap.size s (i + (Utf8.decode s i).2) = wn at hnx HX HXB
        obtain ⟨c, hc⟩ : ∃ c, (Utf8.decode s i).1 = c := ⟨_, rfl⟩
        obtain ⟨d, hd⟩ : ∃ d, (Utf8.decode s i).2 = d := ⟨_, rfl⟩
        rw [hc] at hnx hd1 hd3
        rw [hd] at HX HD hd2
        clear hc hd
        have hlt1 : ¬ (0 : Int) ≤ -1 := by decide
        go_wp2_with (go_at_call 44; refine (indexRune_hi (c : Int) (by omega) _).mono ?_; rintro e w' ⟨rfl, hw⟩; have HW := Pl.hid hw; clear hw)
        have HX' := HW.out.block w.heap.size (Array.getElem?_eq_some_iff.1 HX.out).1
        go_roundw
        case rel =>
          refine ⟨i + d, HX'.trans HX.out, HD.out.1, HXB.out.trans (HW.out.mono HXB.out.size), fun j hj => ?_⟩
          rcases Nat.lt_or_ge j i with h | h
          · exact HN.out j h
          · have h1 := HD.out.2 j h hj
            have h2 := HD.out.1
            rw [Pl.get_bang s j (by omega)] at h1
            exact Pl.hi_isEnd _ h1
        case measure => have h2 := HD.out.1; rw [hpos]; unfold World.iterPos; rw [HX', HX.out]; simp only; omega
    · have hnx := fun ty => Lib.run_next_end_at (P := Tryz.prog) wr w.heap.size s i ty HI.out (by omega)
      go_wp2
      go_ret
      exact ⟨⟨_, rfl, .inl ⟨Pl.noE_all HN.out (by rw [Pl.L_length]; exact hge), rfl⟩⟩, HB.out⟩

/-- strings.ContainsAny(s, "\r\n") -/
theorem containsAny_walk (s : ByteArray) (hs : s.size < 4294967281) (w : World) :
    Calls Tryz.prog 29 #[.string s, .string ⟨#[13, 10]⟩] w fun e w' => e = .returned (.bool (!Pl.noEnd (Pl.L s))) ∧ Below w.heap.size w w' := by
  have key : Calls Tryz.prog 35 #[.string s, .string ⟨#[13, 10]⟩] w fun e w' => (∃ n : Int, e = .returned (.int .i64 n) ∧ ((Pl.noEnd (Pl.L s) = true ∧ n = -1) ∨ (Pl.noEnd (Pl.L s) = false ∧ 0 ≤ n))) ∧ Below w.heap.size w w' := by
    rcases Nat.lt_or_ge 8 s.size with h | h
    · refine (Tryz.strings_IndexAny_long (zero_of_info (n := 256) (by kernel_rfl)).1 s ⟨#[13, 10]⟩ w (by decide) h hs (by decide) ?_).mono ?_
      · intro j b hj
        rcases j with _ | _ | j
        · simp at hj; subst hj; decide
        · simp at hj; subst hj; decide
        · simp at hj
      · rintro e w' ⟨rfl, rfl⟩
        exact ⟨⟨_, rfl, Pl.any2 _⟩, ((Below.refl _ _).alloc (Nat.le_refl _) _).alloc (by simp) _⟩
    · exact indexAny_short s h w
  go_enter Tryz.func29, Tryz.ntmps29
  go_wp2_with fail
  go_at_call 35
  refine key.mono ?_
  rintro e w' ⟨⟨n, rfl, hn⟩, hb⟩
  go_wp2_with fail
  go_ret
  refine ⟨?_, hb⟩
  rcases hn with ⟨h1, rfl⟩ | ⟨h1, h2⟩
  · rw [h1]; rfl
  · rw [h1]; simp [h2]
end Go.Proofs.YtgpbgldnaongnaaGreatDoor

namespace Go.Proofs.YtgpbgldnaongnaaGreatDoor
open Go.RowKit
set_option maxRecDepth 20000

namespace RT
open Pl
/-- a reply's fields, alone: may they be? -/
def okHead (k : Int) (s : ByteArray) (n : Int) (ln : Nat) : Bool :=
  ((k == 1 || k == 2) && noEnd (L s) && n == 0 && ln == 0) || (k == 3 && s.size == 0 && ln == 0) || (k == 4 && n == 0 && ln == 0) || ((k == 5 || k == 7) && s.size == 0 && n == 0 && ln == 0) || (k == 6 && s.size == 0 && n == 0)
mutual
/-- a reply, and all within it, may be -/
def ok : RT → Bool
  | .mk k s n l => okHead k s n l.length && okL l
def okL : List RT → Bool
  | [] => true
  | t :: ts => ok t && okL ts
end
mutual
def depth : RT → Nat
  | .mk k _ _ l => if k = 6 then depthL l + 1 else 0
def depthL : List RT → Nat
  | [] => 0
  | t :: ts => max (depth t) (depthL ts)
end
/-- the numbers of a reply are numbers of 64 bits -/
inductive In : RT → Prop
  | mk (k : Int) (s : ByteArray) (n : Int) (l : List RT) (hn : In64 n) (hl : ∀ t ∈ l, In t) : In (.mk k s n l)
theorem In.num {k : Int} {s : ByteArray} {n : Int} {l : List RT} (h : In (.mk k s n l)) : In64 n := by cases h; assumption
theorem In.list {k : Int} {s : ByteArray} {n : Int} {l : List RT} (h : In (.mk k s n l)) : ∀ t ∈ l, In t := by cases h; assumption
/-- a reply's head: what stands ahead of its list -/
def encH (k : Int) (s : ByteArray) (n : Int) (ln : Nat) : List UInt8 :=
  if k = 1 then [43] ++ L s ++ crlf else if k = 2 then [45] ++ L s ++ crlf else if k = 3 then [58] ++ Lib.itoa n ++ crlf else if k = 4 then bulkE (L s)
  else if k = 5 then [36, 45, 49, 13, 10] else if k = 7 then [42, 45, 49, 13, 10] else [42] ++ Lib.decDigits ln ++ crlf
mutual
/-- the bytes of a reply -/
def enc : RT → List UInt8
  | .mk k s n l => encH k s n l.length ++ encL l
def encL : List RT → List UInt8
  | [] => []
  | t :: ts => enc t ++ encL ts
end
theorem ok_mk (k : Int) (s : ByteArray) (n : Int) (l : List RT) : ok (.mk k s n l) = (okHead k s n l.length && okL l) := by simp [ok]
theorem okL_iff : ∀ l : List RT, okL l = true ↔ ∀ t ∈ l, ok t = true
  | [] => by simp [okL]
  | t :: ts => by simp [okL, okL_iff ts]
theorem okL_all : ∀ l : List RT, okL l = l.all ok
  | [] => by simp [okL]
  | t :: ts => by simp [okL, okL_all ts]
theorem enc_mk (k : Int) (s : ByteArray) (n : Int) (l : List RT) : enc (.mk k s n l) = encH k s n l.length ++ encL l := by simp [enc]
theorem encL_append : ∀ (a b : List RT), encL (a ++ b) = encL a ++ encL b
  | [], b => by simp [encL]
  | x :: a, b => by simp [encL, encL_append a b]
theorem encL_take (l : List RT) (i : Nat) (h : i < l.length) : encL (l.take (i + 1)) = encL (l.take i) ++ enc (l[i]'h) := by
  have e : l.take (i + 1) = l.take i ++ [l[i]'h] := by rw [List.take_add_one, List.getElem?_eq_getElem h]; rfl
  have e2 : encL [l[i]'h] = enc (l[i]'h) := by simp [encL]
  rw [e, encL_append, e2]
theorem encL_split (l : List RT) (i : Nat) : encL l = encL (l.take i) ++ encL (l.drop i) := by
  conv => lhs; rw [← List.take_append_drop i l]
  exact encL_append _ _
theorem encL_le (l : List RT) (i : Nat) : (encL (l.take i)).length ≤ (encL l).length := by
  rw [encL_split l i, List.length_append]
  omega
theorem depth_mk (k : Int) (s : ByteArray) (n : Int) (l : List RT) : depth (.mk k s n l) = if k = 6 then depthL l + 1 else 0 := by simp [depth]
theorem encH_le (k : Int) (s : ByteArray) (n : Int) (ln : Nat) (hs : s.size ≤ 9223372036854775807) (hn : In64 n) (hl : ln ≤ 9223372036854775807) : (encH k s n ln).length ≤ s.size + 26 := by
  have h1 := itoa_le n hn
  have h2 := dec_len ln hl
  have h3 := bulkE_len (L s) (by rw [L_length]; exact hs)
  rw [L_length] at h3
  unfold encH
  (repeat' split) <;> (try simp only [List.length_append, List.length_cons, List.length_nil, crlf, L_length]) <;> omega
end RT

namespace RT
open Pl
/-- what a head tells that may be -/
theorem okHead_cases {k : Int} {s : ByteArray} {n : Int} {ln : Nat} (h : okHead k s n ln = true) :
    (k = 1 ∧ noEnd (L s) = true ∧ n = 0 ∧ ln = 0) ∨ (k = 2 ∧ noEnd (L s) = true ∧ n = 0 ∧ ln = 0) ∨ (k = 3 ∧ s = ⟨#[]⟩ ∧ ln = 0) ∨ (k = 4 ∧ n = 0 ∧ ln = 0) ∨ (k = 5 ∧ s = ⟨#[]⟩ ∧ n = 0 ∧ ln = 0) ∨ (k = 7 ∧ s = ⟨#[]⟩ ∧ n = 0 ∧ ln = 0) ∨ (k = 6 ∧ s = ⟨#[]⟩ ∧ n = 0) := by
  have hs : s.size = 0 → s = ⟨#[]⟩ := fun h => by
    obtain ⟨⟨l⟩⟩ := s
    cases l with
    | nil => rfl
    | cons a l => exact absurd h (by show (a :: l).length ≠ 0; simp)
  unfold okHead at h
  simp only [Bool.or_eq_true, Bool.and_eq_true, beq_iff_eq] at h
  rcases h with (((⟨⟨⟨h1 | h1, h2⟩, h3⟩, h4⟩ | ⟨⟨h1, h2⟩, h3⟩) | ⟨⟨h1, h2⟩, h3⟩) | ⟨⟨⟨h1 | h1, h2⟩, h3⟩, h4⟩) | ⟨⟨h1, h2⟩, h3⟩
  · exact .inl ⟨h1, h2, h3, h4⟩
  · exact .inr (.inl ⟨h1, h2, h3, h4⟩)
  · exact .inr (.inr (.inl ⟨h1, hs h2, h3⟩))
  · exact .inr (.inr (.inr (.inl ⟨h1, h2, h3⟩)))
  · exact .inr (.inr (.inr (.inr (.inl ⟨h1, hs h2, h3, h4⟩))))
  · exact .inr (.inr (.inr (.inr (.inr (.inl ⟨h1, hs h2, h3, h4⟩)))))
  · exact .inr (.inr (.inr (.inr (.inr (.inr ⟨h1, hs h2, h3⟩)))))
end RT

set_option maxHeartbeats 8000000 in
theorem lay_walk (W : World) (hT : Mm.Tab W) : ∀ (t : RT), t.ok = true → t.In → t.sz ≤ 1073741824 → ∀ (c0 c1 c2 c3 : Value), Mm.RepY W t [c0, c1, c2, c3] → ∀ (base : Nat) (v : Value) (l : List UInt8) (w : World), Below W.heap.size W w → W.heap.size ≤ base → base ≤ w.heap.size → Mm.OwnB w base v l →
    l.length + t.enc.length ≤ 1099511627776 →
    Calls Tryz.prog 22 #[v, .agg #[c0, c1, c2, c3]] w fun e w' => ∃ v', e = .returned v' ∧ Mm.OwnB w' base v' (l ++ t.enc) ∧ Below base w w' ∧ Mm.NB w w' := by
  intro t
  induction t using RT.ind with
  | h k s nn ts ih =>
  intro hok hin hsz c0 c1 c2 c3 hX base v l w hW hWb hb ho hl
  obtain ⟨la, lc, hcs, hel⟩ := hX.open
  simp only [List.cons.injEq, and_true] at hcs
  obtain ⟨rfl, rfl, rfl, rfl⟩ := hcs
  rw [RT.ok_mk, Bool.and_eq_true] at hok
  rw [RT.enc_mk] at hl ⊢
  rw [RT.sz_mk] at hsz
  have hllen : l.length ≤ 1099511627776 := by omega
  have nilc : ts.length = 0 → RT.encL ts = [] := fun h => by rw [List.eq_nil_of_length_eq_zero h]; simp [RT.encL]
  rcases RT.okHead_cases hok.1 with ⟨rfl, h2, rfl, h4⟩ | ⟨rfl, h2, rfl, h4⟩ | ⟨rfl, h2, h4⟩ | ⟨rfl, rfl, h4⟩ | ⟨rfl, h2, rfl, h4⟩ | ⟨rfl, h2, rfl, h4⟩ | ⟨rfl, rfl, rfl⟩
  · rw [nilc h4, h4]
    refine (lay_text1 s la lc base v l w hb ho hllen (by omega)).mono ?_
    rintro e w' ⟨v', rfl, h1, h2, h3⟩
    exact ⟨v', rfl, by simpa [RT.encH] using h1, h2, h3⟩
  · rw [nilc h4, h4]
    refine (lay_text2 s la lc base v l w hb ho hllen (by omega)).mono ?_
    rintro e w' ⟨v', rfl, h1, h2, h3⟩
    exact ⟨v', rfl, by simpa [RT.encH] using h1, h2, h3⟩
  · rw [nilc h4, h4]
    refine (lay_int s nn hin.num la lc base v l W w hT hW hWb hb ho hllen).mono ?_
    rintro e w' ⟨v', rfl, h1, h2, h3⟩
    exact ⟨v', rfl, by simpa [RT.encH] using h1, h2, h3⟩
  · rw [nilc h4, h4]
    refine (lay_bulk s la lc base v l W w hT hW hWb hb ho hllen (by omega)).mono ?_
    rintro e w' ⟨v', rfl, h1, h2, h3⟩
    exact ⟨v', rfl, by simpa [RT.encH] using h1, h2, h3⟩
  · rw [nilc h4, h4]
    refine (lay_neg5 s la lc base v l w hb ho hllen).mono ?_
    rintro e w' ⟨v', rfl, h1, h2, h3⟩
    exact ⟨v', rfl, by simpa [RT.encH] using h1, h2, h3⟩
  · rw [nilc h4, h4]
    refine (lay_neg7 s la lc base v l w hb ho hllen).mono ?_
    rintro e w' ⟨v', rfl, h1, h2, h3⟩
    exact ⟨v', rfl, by simpa [RT.encH] using h1, h2, h3⟩
  obtain ⟨n, hnn⟩ : ∃ n, n = ts.length := ⟨_, rfl⟩
  have hel' : n = 0 ∨ ∃ b bo, la = some ⟨b, bo, none⟩ ∧ b < W.heap.size ∧ ∀ (i : Nat) (hi : i < ts.length), ∃ f0 f1 f2 f3, W.cell? ⟨b, bo + i * 4, none⟩ = some f0 ∧ W.cell? ⟨b, bo + i * 4 + 1, none⟩ = some f1 ∧ W.cell? ⟨b, bo + i * 4 + 2, none⟩ = some f2 ∧ W.cell? ⟨b, bo + i * 4 + 3, none⟩ = some f3 ∧ Mm.RepY W (ts[i]'hi) [f0, f1, f2, f3] := by
    rw [hnn]
    exact hel
  clear hel
  rw [← hnn]
  have hE : RT.encH 6 ⟨#[]⟩ 0 n = [42] ++ Lib.decDigits n ++ Pl.crlf := rfl
  rw [hE]
  rw [← hnn, hE] at hl
  obtain ⟨p, hp⟩ : ∃ p, p = w.heap.size := ⟨_, rfl⟩
  obtain ⟨w0, hw0⟩ : ∃ w0, w0 = w.alloc (.cells #[.int .i64 6, .string ⟨#[]⟩, .int .i64 0, .slice la n lc] 25) := ⟨_, rfl⟩
  have HP0 : Hid (w0.heap[p]? = some (.cells #[.int .i64 6, .string ⟨#[]⟩, .int .i64 0, .slice la n lc] 25 (0, 0))) := by
    show _ = _
    rw [hw0, hp]
    exact heap_alloc_new w _
  have HB0 : Hid (Below w.heap.size w w0) := by rw [hw0]; exact (Below.refl _ _).alloc (Nat.le_refl _) _
  have HS0 : Hid (w0.heap.size = w.heap.size + 1) := by show _ = _; rw [hw0]; simp
  have hnu : ¬ Mm.isU8 (.cells #[.int .i64 6, .string ⟨#[]⟩, .int .i64 0, .slice la n lc] 25 (0, 0)) := by
    rintro ⟨cs, fr, e⟩
    injection e with _ e _
    exact absurd e (by decide)
  have HK : Hid (∀ V, Mm.NB w0 V → V.cell? ⟨p, 0, none⟩ = some (.int .i64 6) ∧ V.cell? ⟨p, 3, none⟩ = some (.slice la n lc)) := fun V hV => by
    have h := hV p _ HP0.out hnu
    exact ⟨Mm.cellOf h rfl, Mm.cellOf h rfl⟩
  have HO0 : Hid (Mm.OwnB w0 base v l) := ho.keep fun g hg => HB0.out.block g (ho.lt g hg).2
  have HW := Pl.hid hW
  have HT := Pl.hid hT
  have HWb := Pl.hid hWb
  have hb0 : base ≤ w0.heap.size := by rw [HS0.out]; omega
  have HBB := Pl.hid hb
  have HEL := Pl.hid hel'
  have HNN := Pl.hid hnn
  have HLL := Pl.hid hl
  have HOK := Pl.hid ((RT.okL_iff ts).1 hok.2)
  have HIN := Pl.hid hin.list
  have IH := Pl.hid ih
  have HSZ : Hid (∀ t ∈ ts, t.sz ≤ 1073741824) := fun t ht => by have := RT.szL_mem ht; omega
  have hn' : n ≤ 1099511627776 := by have := RT.szL_len ts; omega
  obtain ⟨k0, k3⟩ := HK.out w0 (Mm.NB.refl _)
  have HW0eq := Pl.hid hw0
  have HPeq := Pl.hid hp
  obtain ⟨TX, hTX⟩ : ∃ TX, TX = Pl.B (Lib.itoa (n : Int)) := ⟨_, rfl⟩
  have hTs : TX.size ≤ 21 := by rw [hTX, Pl.B_size]; exact Pl.itoa_le _ (by unfold Pl.In64; omega)
  have HTX : Hid (TX = Pl.B (Lib.decDigits n)) := by
    show _ = _
    rw [hTX, Pl.itoa_pos (by omega)]
    rfl
  have HTW := Pl.hid (fun w' (hw' : Mm.Tab w') => text_walk (n : Int) w' (by unfold Pl.In64; omega) hw')
  rw [← hTX] at HTW
  have H13 : Hid ((TX ++ (⟨#[13, 10]⟩ : ByteArray)).size ≤ 23) := by
    show _ ≤ _
    rw [ByteArray.size_append, show (⟨#[13, 10]⟩ : ByteArray).size = 2 from rfl]
    omega
  have HE0 : Hid (l ++ [42] ++ Pl.L (TX ++ (⟨#[13, 10]⟩ : ByteArray)) = l ++ ([42] ++ Lib.decDigits n ++ Pl.crlf)) := by
    show _ = _
    rw [HTX.out, show (⟨#[13, 10]⟩ : ByteArray) = Pl.B Pl.crlf from rfl, Pl.B_append, Pl.L_B]
    simp
  clear hTX hw0 hp hnu ho hW hT hX hel' hnn hl hok hin ih hsz hE nilc
  go_enter Tryz.func22, Tryz.ntmps22
  go_wp2_with fail
  rw [← HW0eq.out, ← HPeq.out]
  refine (sign_6 w0).mono ?_
  rintro e w0' ⟨rfl, rfl⟩
  go_wp2_with (at_builtin; refine Mm.wp_app1N w0 rfl _ _ (by rfl) base v l 42 (by rfl) (by rfl) HO0.out (by omega) hb0 ?_; intro v1 w1 ho1 hb1 hn1; have HO1 := Pl.hid ho1; have HB1 := Pl.hid hb1; have HN1 := Pl.hid hn1; clear ho1 hb1 hn1 k0 k3; obtain ⟨k0, k3⟩ := HK.out w1 HN1.out)
  have HW1 : Hid (Below W.heap.size W w1) := HW.out.trans (((HB0.out.mono HBB.out).trans HB1.out).mono HWb.out)
  refine (HTW.out w1 (HT.out.on HW1.out)).mono ?_
  rintro e w2 ⟨rfl, hb2⟩
  have HN2 := Pl.hid (HN1.out.trans (Mm.NB.below hb2))
  have HB2 := Pl.hid (HB1.out.trans (hb2.mono (Nat.le_trans hb0 HB1.out.size)))
  have HO2 : Hid (Mm.OwnB w2 base v1 (l ++ [42])) := HO1.out.keep fun g hg => hb2.block g (HO1.out.lt g hg).2
  clear hb2 k0 k3
  obtain ⟨k0, k3⟩ := HK.out w2 HN2.out
  have hb2s : base ≤ w2.heap.size := Nat.le_trans hb0 HB2.out.size
  go_wp2_with (at_builtin; refine Mm.wp_appSN w2 rfl _ _ (by rfl) base v1 (l ++ [42]) (TX ++ (⟨#[13, 10]⟩ : ByteArray)) (by rfl) (by rfl) HO2.out (by have := H13.out; rw [List.length_append]; simp only [List.length_cons, List.length_nil]; omega) hb2s ?_; intro v3 w3 ho3 hb3 hn3; rw [HE0.out] at ho3; have HO3 := Pl.hid ho3; have HB3 := Pl.hid (HB2.out.trans hb3); have HN3 := Pl.hid (HN2.out.trans hn3); clear ho3 hb3 hn3 k0 k3; obtain ⟨k0, k3⟩ := HK.out w3 HN3.out)
  have HB03 : Hid (Below base w w3) := (HB0.out.mono HBB.out).trans HB3.out
  clear k0 k3
  go_loopw [50, 0] (fun iv bvv wr => ∃ (i : Nat) (bv : Value), iv = .int .i64 i ∧ bv = bvv ∧ i ≤ n ∧ Hid (Mm.OwnB wr base bv (l ++ ([42] ++ Lib.decDigits n ++ Pl.crlf) ++ RT.encL (ts.take i))) ∧ Hid (Below base w wr) ∧ Hid (Mm.NB w0 wr)) (fun iv _ _ => n - (intOf iv).toNat)
  case atStart => exact ⟨0, _, rfl, rfl, Nat.zero_le _, by show Mm.OwnB _ _ _ _; rw [List.take_zero, show RT.encL [] = [] by simp [RT.encL], List.append_nil]; exact HO3.out, HB03.out, HN3.out⟩
  case round =>
    obtain ⟨i, bv, rfl, rfl, hi, HO, HB, HN⟩ := hrel
    rcases Nat.lt_or_ge i n with hlt | hge
    · rcases HEL.out with h0 | ⟨blk, bo, rfl, hbl, hel⟩
      · omega
      have hlt' : i < ts.length := by rw [← HNN.out]; exact hlt
      obtain ⟨f0, f1, f2, f3, g0, g1, g2, g3, hrep⟩ := hel i hlt'
      have HWr : Hid (Below W.heap.size W wr) := HW.out.trans (HB.out.mono HWb.out)
      have e0 := (HWr.out.cell (p := ⟨blk, bo + i * 4, none⟩) hbl).trans g0
      have e1 := (HWr.out.cell (p := ⟨blk, bo + i * 4 + 1, none⟩) hbl).trans g1
      have e2 := (HWr.out.cell (p := ⟨blk, bo + i * 4 + 2, none⟩) hbl).trans g2
      have e3 := (HWr.out.cell (p := ⟨blk, bo + i * 4 + 3, none⟩) hbl).trans g3
      have HREP := Pl.hid hrep
      have HLT := Pl.hid hlt'
      clear g0 g1 g2 g3 hrep hel
      obtain ⟨q, hq⟩ : ∃ q, q = wr.heap.size := ⟨_, rfl⟩
      have HQ := Pl.hid hq
      clear hq
      go_wp2_with (refine Mm.wp_store4 _ rfl _ _ rfl wr.heap.size _ _ _ _ _ _ (heap_alloc_new wr _) rfl rfl rfl HREP.out.one ?_; intro w4 hw4 hs4 hg4; have HW4 := Pl.hid hw4; have HG4 := Pl.hid hg4; have HS4 := Pl.hid hs4; clear hw4 hs4 hg4; have q0 := Mm.cellOf (i := 0) (v := f0) HW4.out rfl; have q1 := Mm.cellOf (i := 1) (v := f1) HW4.out rfl; have q2 := Mm.cellOf (i := 2) (v := f2) HW4.out rfl; have q3 := Mm.cellOf (i := 3) (v := f3) HW4.out rfl; clear e0 e1 e2 e3)
      have HN4 : Hid (Mm.NB w0 w4) := by
        refine HN.out.trans fun g o hg _ => ?_
        have hgl := (Array.getElem?_eq_some_iff.1 hg).1
        exact (HG4.out.block g (by simp; omega) (fun e => by injection e with e; omega)).trans ((Below.heap_alloc _ _ _ hgl).trans hg)
      have HB4 : Hid (Below base w w4) := by
        have hz : base ≤ wr.heap.size := Nat.le_trans HBB.out HB.out.size
        refine (HB.out.alloc hz (.cells #[.int .i64 0, .string ⟨#[]⟩, .int .i64 0, .slice none 0 0] 25)).grown HG4.out (by simp; omega) (fun k hk => by injection hk with hk; omega)
      have HO4 : Hid (Mm.OwnB w4 base bv (l ++ ([42] ++ Lib.decDigits n ++ Pl.crlf) ++ RT.encL (ts.take i))) := (HO.out.keep (w' := wr.alloc (.cells #[.int .i64 0, .string ⟨#[]⟩, .int .i64 0, .slice none 0 0] 25)) (fun g hg => Below.heap_alloc _ _ _ (HO.out.lt g hg).2)).keep fun g hg => HG4.out.block g (by have := (HO.out.lt g hg).2; simp; omega) (fun e => by injection e with e; have := (HO.out.lt g hg).2; omega)
      have hb4 : base ≤ w4.heap.size := Nat.le_trans HBB.out HB4.out.size
      have HLEN4 : Hid ((l ++ ([42] ++ Lib.decDigits n ++ Pl.crlf) ++ RT.encL (ts.take i)).length + (ts[i]'HLT.out).enc.length ≤ 1099511627776) := by
        have h1 := RT.encL_le ts (i + 1)
        have h2 := HLL.out
        rw [RT.encL_take ts i HLT.out] at h1
        show _ ≤ _
        simp only [List.length_append] at h1 h2 ⊢
        omega
      refine (IH.out _ (List.getElem_mem HLT.out) (HOK.out _ (List.getElem_mem HLT.out)) (HIN.out _ (List.getElem_mem HLT.out)) (HSZ.out _ (List.getElem_mem HLT.out)) f0 f1 f2 f3 HREP.out base bv _ w4 (HW.out.trans (HB4.out.mono HWb.out)) HWb.out hb4 HO4.out HLEN4.out).mono ?_
      rintro e w5 ⟨v5, rfl, ho5, hb5, hn5⟩
      have HO5 : Hid (Mm.OwnB w5 base v5 (l ++ ([42] ++ Lib.decDigits n ++ Pl.crlf) ++ RT.encL (ts.take (i + 1)))) := by
        rw [RT.encL_take ts i HLT.out, ← List.append_assoc]
        exact ho5
      have HB5 := Pl.hid (HB4.out.trans hb5)
      have HN5 := Pl.hid (HN4.out.trans hn5)
      clear ho5 hb5 hn5 q0 q1 q2 q3
      go_wp2_with fail
      go_roundw
      case rel => exact ⟨i + 1, v5, by go_num, rfl, by omega, HO5, HB5, HN5⟩
      case measure => simp [intOf]; omega
    · obtain rfl : i = n := by omega
      go_wp2_with fail
      go_ret
      refine ⟨_, rfl, ?_, HB.out, (Mm.NB.below HB0.out).trans HN.out⟩
      have h := HO.out
      rw [HNN.out, List.take_length] at h
      rw [← HNN.out] at h
      simpa using h
end Go.Proofs.YtgpbgldnaongnaaGreatDoor
