/- DERIVED: THE SHELF's CONTRACTS AT THIS DUMP, IN PLAIN WORDS (tools/lay-plain.mjs out of 'TryzPick.lean', which tools/lay-shelf.mjs wrote): THE SAME DECLARATIONS UNDER THE SAME NAMES: 'import', 'namespace', 'open', 'def', 'theorem' AND NOTHING ELSE: no command of the shelf's: FOR A HAND-IN. Each laying: the table of numbers ('.._ren') and one theorem, a field a fact of the dump's own or the kernel's comparison; each contract: ONE APPLICATION. Contracts of digit.Text, digit.Int: how a number is written and read. Conditions: the table of powers and the two errors of the library stand as they were laid; texts within the form's reach. The parser of requests as a plain function on bytes, and what of it stands in memory. Conditions stand in each law. A parser's line and number: Go's line, number. Conditions stand in each law. Conditions stand in each law. -/
import Derived.Shelf.Strconv.Itoa4
import Derived.Shelf.Strconv.ErrVarParseInt
import Derived.Shelf.Bytes.SlSmallAll
import Derived.Shelf.Bytes.IndexByte
import Derived.Ground.MpProg
import Derived.Test.YtgpbgldnaongnaaGreatDoorProg
import Derived.Test.YtgpbgldnaongnaaGreatDoorBuWireOut1
import Derived.Lib.AppendIntMem
import Derived.Lib.LaidTab
import Derived.Test.YtgpbgldnaongnaaGreatDoorBuWireOut2
import Derived.Lib.IndexLaws
namespace Go.Proofs
open Go.Shelf
def Tryz.laysM173_ren : Go.Shelf.Ren := ⟨fun | 173 => 36 | 246 => 48 | 283 => 63 | 284 => 64 | 285 => 65 | 286 => 66 | 129 => 82 | 317 => 81 | 318 => 83 | 319 => 84 | 320 => 85 | 337 => 95 | 338 => 96 | n => n, fun | 2 => 2 | 3 => 3 | 9 => 9 | 4 => 4 | 171 => 116 | 0 => 0 | 53 => 117 | 37 => 23 | 5 => 5 | 173 => 120 | 212 => 131 | 51 => 132 | 20 => 20 | 213 => 133 | 46 => 113 | 232 => 150 | 233 => 151 | n => n, fun | 17 => 7 | 18 => 10 | 19 => 11 | n => n⟩
theorem Tryz.laysM173 : Go.Proofs.LaysM.n173 Tryz.prog Tryz.laysM173_ren := {
  mixed := by kernel_rfl
  f129 := Tryz.func82.trans (congrArg some (by kernel_rfl))
  f173 := Tryz.func36.trans (congrArg some (by kernel_rfl))
  f246 := Tryz.func48.trans (congrArg some (by kernel_rfl))
  f283 := Tryz.func63.trans (congrArg some (by kernel_rfl))
  f284 := Tryz.func64.trans (congrArg some (by kernel_rfl))
  f285 := Tryz.func65.trans (congrArg some (by kernel_rfl))
  f286 := Tryz.func66.trans (congrArg some (by kernel_rfl))
  f317 := Tryz.func81.trans (congrArg some (by kernel_rfl))
  f318 := Tryz.func83.trans (congrArg some (by kernel_rfl))
  f319 := Tryz.func84.trans (congrArg some (by kernel_rfl))
  f320 := Tryz.func85.trans (congrArg some (by kernel_rfl))
  f337 := Tryz.func95.trans (congrArg some (by kernel_rfl))
  f338 := Tryz.func96.trans (congrArg some (by kernel_rfl))
  t0 := Tryz.underlying0
  a0 := Tryz.isAgg0
  z0 := Tryz.sizeOf0
  v0 := Tryz.zeroValue0
  t2 := Tryz.underlying2
  a2 := Tryz.isAgg2
  z2 := Tryz.sizeOf2
  v2 := Tryz.zeroValue2
  t3 := Tryz.underlying3
  a3 := Tryz.isAgg3
  z3 := Tryz.sizeOf3
  v3 := Tryz.zeroValue3
  t4 := Tryz.underlying4
  a4 := Tryz.isAgg4
  z4 := Tryz.sizeOf4
  v4 := Tryz.zeroValue4
  t5 := Tryz.underlying5
  a5 := Tryz.isAgg5
  z5 := Tryz.sizeOf5
  v5 := Tryz.zeroValue5
  t9 := Tryz.underlying9
  a9 := Tryz.isAgg9
  z9 := Tryz.sizeOf9
  v9 := Tryz.zeroValue9
  t20 := Tryz.underlying20
  a20 := Tryz.isAgg20
  z20 := Tryz.sizeOf20
  v20 := Tryz.zeroValue20
  t37 := Tryz.underlying23
  a37 := Tryz.isAgg23
  z37 := Tryz.sizeOf23
  v37 := Tryz.zeroValue23
  t46 := Tryz.underlying113
  a46 := Tryz.isAgg113
  z46 := Tryz.sizeOf113
  v46 := Tryz.zeroValue113
  t51 := Tryz.underlying132
  a51 := Tryz.isAgg132
  z51 := Tryz.sizeOf132
  v51 := Tryz.zeroValue132
  t53 := Tryz.underlying117
  a53 := Tryz.isAgg117
  z53 := Tryz.sizeOf117
  v53 := Tryz.zeroValue117
  t171 := Tryz.underlying116
  a171 := Tryz.isAgg116
  z171 := Tryz.sizeOf116
  v171 := Tryz.zeroValue116
  t173 := Tryz.underlying120
  a173 := Tryz.isAgg120
  z173 := Tryz.sizeOf120
  v173 := Tryz.zeroValue120
  t212 := Tryz.underlying131
  a212 := Tryz.isAgg131
  z212 := Tryz.sizeOf131
  v212 := Tryz.zeroValue131
  t213 := Tryz.underlying133
  a213 := Tryz.isAgg133
  z213 := Tryz.sizeOf133
  t232 := Tryz.underlying150
  a232 := Tryz.isAgg150
  z232 := Tryz.sizeOf150
  v232 := Tryz.zeroValue150
  t233 := Tryz.underlying151
  a233 := Tryz.isAgg151
  z233 := Tryz.sizeOf151
  v233 := Tryz.zeroValue151
  g17 := by kernel_rfl
  g18 := by kernel_rfl
  g19 := by kernel_rfl
  i0 := by kernel_rfl
  i2 := by kernel_rfl
  i3 := by kernel_rfl
  i4 := by kernel_rfl
  i5 := by kernel_rfl
  i9 := by kernel_rfl
  i20 := by kernel_rfl
  i37 := by kernel_rfl
  i46 := by kernel_rfl
  i51 := by kernel_rfl
  i53 := by kernel_rfl
  i171 := by kernel_rfl
  i173 := by kernel_rfl
  i212 := by kernel_rfl
  i232 := by kernel_rfl
  i233 := by kernel_rfl
  m17 := by kernel_rfl
  m18 := by kernel_rfl
  m19 := by kernel_rfl }
open Go.RowKit Go.Sort Go.Lib in
/-- strconv.FormatInt: "FormatInt returns the string representation of i in the given base": AT BASE 10: i's decimal numeral, for every int64. (LAID: no walk: one application.) -/
theorem Tryz.strconv_FormatInt_10 (n : Int) (h0 : -9223372036854775808 ≤ n) (h1 : n ≤ 9223372036854775807) (w : World) (htab : Lib.TabIs Tryz.prog w "internal/strconv.uint64pow10" .u64 Lib.pow10Tab) :
    Calls Tryz.prog 36 #[.int .i64 n, .int .i64 10] w fun e w' => e = .returned (.string ⟨(Lib.itoa n).toArray⟩) ∧ ∃ k os, w' = grow (w.drewN k) os := Any.strconv_FormatInt_10 Tryz.laysM173 n h0 h1 w htab
def Tryz.laysC174_ren : Go.Shelf.Ren := ⟨fun | 174 => 86 | 247 => 97 | 245 => 98 | 287 => 100 | 279 => 101 | 280 => 102 | 281 => 103 | 282 => 104 | 321 => 105 | 322 => 106 | 316 => 107 | 171 => 109 | 205 => 108 | 243 => 110 | 246 => 48 | 283 => 63 | 284 => 64 | 285 => 65 | 286 => 66 | 129 => 82 | 317 => 81 | 318 => 83 | 319 => 84 | 320 => 85 | 337 => 95 | 338 => 96 | n => n, fun | 9 => 9 | 3 => 3 | 2 => 2 | 75 => 60 | 85 => 135 | 4 => 4 | 167 => 152 | 5 => 5 | 53 => 117 | 175 => 153 | 46 => 113 | 168 => 155 | 37 => 23 | 0 => 0 | 210 => 160 | 21 => 21 | 127 => 129 | 145 => 164 | 143 => 162 | 171 => 116 | 173 => 120 | 212 => 131 | 51 => 132 | 20 => 20 | 213 => 133 | 232 => 150 | 233 => 151 | 80 => 109 | n => n, fun | 15 => 12 | 16 => 13 | 17 => 7 | 18 => 10 | 19 => 11 | n => n⟩
theorem Tryz.laysC174 : Go.Proofs.LaysC.n174 Tryz.prog Tryz.laysC174_ren := {
  mixed := by kernel_rfl
  f129 := Tryz.func82.trans (congrArg some (by kernel_rfl))
  f171 := Tryz.func109.trans (congrArg some (by kernel_rfl))
  f174 := Tryz.func86.trans (congrArg some (by kernel_rfl))
  f205 := Tryz.func108.trans (congrArg some (by kernel_rfl))
  f243 := Tryz.func110.trans (congrArg some (by kernel_rfl))
  f245 := Tryz.func98.trans (congrArg some (by kernel_rfl))
  f246 := Tryz.func48.trans (congrArg some (by kernel_rfl))
  f247 := Tryz.func97.trans (congrArg some (by kernel_rfl))
  f279 := Tryz.func101.trans (congrArg some (by kernel_rfl))
  f280 := Tryz.func102.trans (congrArg some (by kernel_rfl))
  f281 := Tryz.func103.trans (congrArg some (by kernel_rfl))
  f282 := Tryz.func104.trans (congrArg some (by kernel_rfl))
  f283 := Tryz.func63.trans (congrArg some (by kernel_rfl))
  f284 := Tryz.func64.trans (congrArg some (by kernel_rfl))
  f285 := Tryz.func65.trans (congrArg some (by kernel_rfl))
  f286 := Tryz.func66.trans (congrArg some (by kernel_rfl))
  f287 := Tryz.func100.trans (congrArg some (by kernel_rfl))
  f316 := Tryz.func107.trans (congrArg some (by kernel_rfl))
  f317 := Tryz.func81.trans (congrArg some (by kernel_rfl))
  f318 := Tryz.func83.trans (congrArg some (by kernel_rfl))
  f319 := Tryz.func84.trans (congrArg some (by kernel_rfl))
  f320 := Tryz.func85.trans (congrArg some (by kernel_rfl))
  f321 := Tryz.func105.trans (congrArg some (by kernel_rfl))
  f322 := Tryz.func106.trans (congrArg some (by kernel_rfl))
  f337 := Tryz.func95.trans (congrArg some (by kernel_rfl))
  f338 := Tryz.func96.trans (congrArg some (by kernel_rfl))
  t0 := Tryz.underlying0
  a0 := Tryz.isAgg0
  z0 := Tryz.sizeOf0
  v0 := Tryz.zeroValue0
  t2 := Tryz.underlying2
  a2 := Tryz.isAgg2
  z2 := Tryz.sizeOf2
  v2 := Tryz.zeroValue2
  t3 := Tryz.underlying3
  a3 := Tryz.isAgg3
  z3 := Tryz.sizeOf3
  v3 := Tryz.zeroValue3
  t4 := Tryz.underlying4
  a4 := Tryz.isAgg4
  z4 := Tryz.sizeOf4
  v4 := Tryz.zeroValue4
  t5 := Tryz.underlying5
  a5 := Tryz.isAgg5
  z5 := Tryz.sizeOf5
  v5 := Tryz.zeroValue5
  t9 := Tryz.underlying9
  a9 := Tryz.isAgg9
  z9 := Tryz.sizeOf9
  v9 := Tryz.zeroValue9
  t20 := Tryz.underlying20
  a20 := Tryz.isAgg20
  z20 := Tryz.sizeOf20
  v20 := Tryz.zeroValue20
  t21 := Tryz.underlying21
  a21 := Tryz.isAgg21
  z21 := Tryz.sizeOf21
  v21 := Tryz.zeroValue21
  t37 := Tryz.underlying23
  a37 := Tryz.isAgg23
  z37 := Tryz.sizeOf23
  v37 := Tryz.zeroValue23
  t46 := Tryz.underlying113
  a46 := Tryz.isAgg113
  z46 := Tryz.sizeOf113
  v46 := Tryz.zeroValue113
  t51 := Tryz.underlying132
  a51 := Tryz.isAgg132
  z51 := Tryz.sizeOf132
  v51 := Tryz.zeroValue132
  t53 := Tryz.underlying117
  a53 := Tryz.isAgg117
  z53 := Tryz.sizeOf117
  v53 := Tryz.zeroValue117
  t75 := Tryz.underlying60
  a75 := Tryz.isAgg60
  z75 := Tryz.sizeOf60
  v75 := Tryz.zeroValue60
  t85 := Tryz.underlying135
  a85 := Tryz.isAgg135
  z85 := Tryz.sizeOf135
  v85 := Tryz.zeroValue135
  t127 := Tryz.underlying129
  a127 := Tryz.isAgg129
  z127 := Tryz.sizeOf129
  v127 := Tryz.zeroValue129
  t143 := Tryz.underlying162
  a143 := Tryz.isAgg162
  z143 := Tryz.sizeOf162
  v143 := Tryz.zeroValue162
  t145 := Tryz.underlying164
  a145 := Tryz.isAgg164
  z145 := Tryz.sizeOf164
  v145 := Tryz.zeroValue164
  t167 := Tryz.underlying152
  a167 := Tryz.isAgg152
  z167 := Tryz.sizeOf152
  v167 := Tryz.zeroValue152
  t168 := Tryz.underlying155
  a168 := Tryz.isAgg155
  z168 := Tryz.sizeOf155
  v168 := Tryz.zeroValue155
  t171 := Tryz.underlying116
  a171 := Tryz.isAgg116
  z171 := Tryz.sizeOf116
  v171 := Tryz.zeroValue116
  t173 := Tryz.underlying120
  a173 := Tryz.isAgg120
  z173 := Tryz.sizeOf120
  v173 := Tryz.zeroValue120
  t175 := Tryz.underlying153
  a175 := Tryz.isAgg153
  z175 := Tryz.sizeOf153
  v175 := Tryz.zeroValue153
  t210 := Tryz.underlying160
  a210 := Tryz.isAgg160
  z210 := Tryz.sizeOf160
  v210 := Tryz.zeroValue160
  t212 := Tryz.underlying131
  a212 := Tryz.isAgg131
  z212 := Tryz.sizeOf131
  v212 := Tryz.zeroValue131
  t213 := Tryz.underlying133
  a213 := Tryz.isAgg133
  z213 := Tryz.sizeOf133
  t232 := Tryz.underlying150
  a232 := Tryz.isAgg150
  z232 := Tryz.sizeOf150
  v232 := Tryz.zeroValue150
  t233 := Tryz.underlying151
  a233 := Tryz.isAgg151
  z233 := Tryz.sizeOf151
  v233 := Tryz.zeroValue151
  g15 := by kernel_rfl
  g16 := by kernel_rfl
  g17 := by kernel_rfl
  g18 := by kernel_rfl
  g19 := by kernel_rfl
  t80 := Tryz.underlying109
  a80 := Tryz.isAgg109
  z80 := Tryz.sizeOf109
  v80 := Tryz.zeroValue109
  i0 := by kernel_rfl
  i2 := by kernel_rfl
  i3 := by kernel_rfl
  i4 := by kernel_rfl
  i5 := by kernel_rfl
  i9 := by kernel_rfl
  i20 := by kernel_rfl
  i21 := by kernel_rfl
  i37 := by kernel_rfl
  i46 := by kernel_rfl
  i51 := by kernel_rfl
  i53 := by kernel_rfl
  i75 := by kernel_rfl
  i80 := by kernel_rfl
  i85 := by kernel_rfl
  i127 := by kernel_rfl
  i143 := by kernel_rfl
  i145 := by kernel_rfl
  i167 := by kernel_rfl
  i168 := by kernel_rfl
  i171 := by kernel_rfl
  i173 := by kernel_rfl
  i175 := by kernel_rfl
  i210 := by kernel_rfl
  i212 := by kernel_rfl
  i232 := by kernel_rfl
  i233 := by kernel_rfl
  m15 := by kernel_rfl
  m16 := by kernel_rfl
  m17 := by kernel_rfl
  m18 := by kernel_rfl
  m19 := by kernel_rfl
  c0 := by kernel_rfl
  c2 := by kernel_rfl
  c3 := by kernel_rfl
  c4 := by kernel_rfl
  c5 := by kernel_rfl
  c9 := by kernel_rfl
  c20 := by kernel_rfl
  c21 := by kernel_rfl
  c37 := by kernel_rfl
  c46 := by kernel_rfl
  c51 := by kernel_rfl
  c53 := by kernel_rfl
  c75 := by kernel_rfl
  c80 := by kernel_rfl
  c85 := by kernel_rfl
  c127 := by kernel_rfl
  c143 := by kernel_rfl
  c145 := by kernel_rfl
  c167 := by kernel_rfl
  c168 := by kernel_rfl
  c171 := by kernel_rfl
  c173 := by kernel_rfl
  c175 := by kernel_rfl
  c210 := by kernel_rfl
  c212 := by kernel_rfl
  c213 := by kernel_rfl
  c232 := by kernel_rfl
  c233 := by kernel_rfl }
open Go.RowKit in
/-- strconv.ParseInt(s, 10, 64), AT EVERY STRING THAT SPELLS AN int64 ('Lib.parseIntB 64 s.data.toList = .ok v'): v, AND NO ERROR. (LAID: no walk: one application.) -/
theorem Tryz.strconv_ParseInt_10_at64_ok (s : ByteArray) (hmax : s.size ≤ 9223372036854775806) (v : Int) (h : Lib.parseIntB 64 s.data.toList = .ok v) (w : World) :
    Calls Tryz.prog 86 #[.string s, .int .i64 10, .int .i64 64] w fun e w' => e = .returned (.tuple #[.int .i64 v, .nilIface]) ∧ (w' = w ∨ ∃ t, w' = Lib.bytesWorld w 5 t) := Any.strconv_ParseInt_10_at64_ok Tryz.laysC174 s hmax v h w
open Go.RowKit in
theorem Tryz.strconv_ParseInt_10_at64_syntax_var (s : ByteArray) (hlim : s.size ≤ 281474976710656) (h : Lib.parseIntB 64 s.data.toList = Lib.NumEnd.syntax) (tp : TypeId) (p : Value) (w : World) (hvar : w.var? Tryz.prog "strconv.ErrSyntax" = some #[.iface tp p]) :
    Calls Tryz.prog 86 #[.string s, .int .i64 10, .int .i64 64] w fun e w' => ∃ N, e = .returned (.tuple #[.int .i64 (0), .iface 155 (.pointer (some ⟨N, 0, none⟩))]) ∧ w.heap.size ≤ N ∧ w'.heap[N]? = some (.cells #[.string ⟨#[80, 97, 114, 115, 101, 73, 110, 116]⟩, .string s, .iface tp p] 160 (0, 0)) ∧ Below w.heap.size w w' := Any.strconv_ParseInt_10_at64_syntax_var Tryz.laysC174 s hlim h tp p w hvar
open Go.RowKit in
theorem Tryz.strconv_ParseInt_10_at64_range_var (s : ByteArray) (hlim : s.size ≤ 281474976710656) (h : Lib.parseIntB 64 s.data.toList = .range) (tp : TypeId) (p : Value) (w : World) (hvar : w.var? Tryz.prog "strconv.ErrRange" = some #[.iface tp p]) :
    Calls Tryz.prog 86 #[.string s, .int .i64 10, .int .i64 64] w fun e w' => ∃ N, e = .returned (.tuple #[.int .i64 (Lib.intSat 64 s.data.toList), .iface 155 (.pointer (some ⟨N, 0, none⟩))]) ∧ w.heap.size ≤ N ∧ w'.heap[N]? = some (.cells #[.string ⟨#[80, 97, 114, 115, 101, 73, 110, 116]⟩, .string s, .iface tp p] 160 (0, 0)) ∧ Below w.heap.size w w' := Any.strconv_ParseInt_10_at64_range_var Tryz.laysC174 s hlim h tp p w hvar
def Tryz.laysnb140_ren : Go.Shelf.Ren := ⟨fun | 140 => 51 | 117 => 70 | 115 => 89 | n => n, fun | 37 => 23 | 4 => 4 | 3 => 3 | 9 => 9 | 5 => 5 | n => n, fun | n => n⟩
theorem Tryz.laysnb140 : Go.Proofs.Lays.nb140 Tryz.prog Tryz.laysnb140_ren := {
  mixed := by kernel_rfl
  f115 := Tryz.func89.trans (congrArg some (by kernel_rfl))
  f117 := Tryz.func70.trans (congrArg some (by kernel_rfl))
  f140 := Tryz.func51.trans (congrArg some (by kernel_rfl))
  t3 := Tryz.underlying3
  a3 := Tryz.isAgg3
  z3 := Tryz.sizeOf3
  v3 := Tryz.zeroValue3
  t4 := Tryz.underlying4
  a4 := Tryz.isAgg4
  z4 := Tryz.sizeOf4
  v4 := Tryz.zeroValue4
  t9 := Tryz.underlying9
  a9 := Tryz.isAgg9
  z9 := Tryz.sizeOf9
  v9 := Tryz.zeroValue9
  t37 := Tryz.underlying23
  a37 := Tryz.isAgg23
  z37 := Tryz.sizeOf23
  v37 := Tryz.zeroValue23
  t5 := Tryz.underlying5
  a5 := Tryz.isAgg5
  z5 := Tryz.sizeOf5
  v5 := Tryz.zeroValue5 }
def Tryz.laysnb142_ren : Go.Shelf.Ren := ⟨fun | 142 => 67 | 117 => 70 | 115 => 89 | n => n, fun | 37 => 23 | 4 => 4 | 3 => 3 | 9 => 9 | 5 => 5 | n => n, fun | n => n⟩
theorem Tryz.laysnb142 : Go.Proofs.Lays.nb142 Tryz.prog Tryz.laysnb142_ren := {
  mixed := by kernel_rfl
  f115 := Tryz.func89.trans (congrArg some (by kernel_rfl))
  f117 := Tryz.func70.trans (congrArg some (by kernel_rfl))
  f142 := Tryz.func67.trans (congrArg some (by kernel_rfl))
  t3 := Tryz.underlying3
  a3 := Tryz.isAgg3
  z3 := Tryz.sizeOf3
  v3 := Tryz.zeroValue3
  t4 := Tryz.underlying4
  a4 := Tryz.isAgg4
  z4 := Tryz.sizeOf4
  v4 := Tryz.zeroValue4
  t9 := Tryz.underlying9
  a9 := Tryz.isAgg9
  z9 := Tryz.sizeOf9
  v9 := Tryz.zeroValue9
  t37 := Tryz.underlying23
  a37 := Tryz.isAgg23
  z37 := Tryz.sizeOf23
  v37 := Tryz.zeroValue23
  t5 := Tryz.underlying5
  a5 := Tryz.isAgg5
  z5 := Tryz.sizeOf5
  v5 := Tryz.zeroValue5 }
/-- bytes.TrimSuffix: WHOLE. (LAID: no walk: one application.) -/
theorem Tryz.bytes_TrimSuffix_all (p1 p2 : Option Addr) (n c m d : Nat) (xs ys : List Int) (w : World) (hx : xs.length = n) (hy : ys.length = m) (hnc : n ≤ c) (hbig : n ≤ 9223372036854775807) (h1 : Lib.BytesIn w p1 n xs) (h2 : Lib.BytesIn w p2 m ys) :
    Calls Tryz.prog 51 #[.slice p1 n c, .slice p2 m d] w fun e w' => e = .returned (Lib.trimSuffixV p1 n c xs ys) ∧ w' = w := Any.bytes_TrimSuffix_all Tryz.laysnb140 p1 p2 n c m d xs ys w hx hy hnc hbig h1 h2
/-- bytes.CutSuffix: WHOLE. (LAID: no walk: one application.) -/
theorem Tryz.bytes_CutSuffix_all (p1 p2 : Option Addr) (n c m d : Nat) (xs ys : List Int) (w : World) (hx : xs.length = n) (hy : ys.length = m) (hnc : n ≤ c) (hbig : n ≤ 9223372036854775807) (h1 : Lib.BytesIn w p1 n xs) (h2 : Lib.BytesIn w p2 m ys) :
    Calls Tryz.prog 67 #[.slice p1 n c, .slice p2 m d] w fun e w' => e = .returned (.tuple #[Lib.trimSuffixV p1 n c xs ys, .bool (Lib.hasSuffix (Lib.bytesOf xs) (Lib.bytesOf ys))]) ∧ w' = w := Any.bytes_CutSuffix_all Tryz.laysnb142 p1 p2 n c m d xs ys w hx hy hnc hbig h1 h2
def Tryz.lays187_ren : Go.Shelf.Ren := ⟨fun | 187 => 69 | 255 => 88 | n => n, fun | 37 => 23 | 5 => 5 | 3 => 3 | n => n, fun | n => n⟩
theorem Tryz.lays187 : Go.Proofs.Lays.n187 Tryz.prog Tryz.lays187_ren := {
  mixed := by kernel_rfl
  f187 := Tryz.func69.trans (congrArg some (by kernel_rfl))
  f255 := Tryz.func88.trans (congrArg some (by kernel_rfl))
  t3 := Tryz.underlying3
  a3 := Tryz.isAgg3
  z3 := Tryz.sizeOf3
  v3 := Tryz.zeroValue3
  t5 := Tryz.underlying5
  a5 := Tryz.isAgg5
  z5 := Tryz.sizeOf5
  v5 := Tryz.zeroValue5
  t37 := Tryz.underlying23
  a37 := Tryz.isAgg23
  z37 := Tryz.sizeOf23
  v37 := Tryz.zeroValue23 }
/-- bytes.IndexByte: "IndexByte returns the index of the first instance of c in b, or -1 if c is not present in b.": IT RETURNS 'Lib.indexByte (the bytes of b) c'; the world is as it was. 'xs': the numbers that the slice's cells hold. (LAID: no walk: one application.) -/
theorem Tryz.bytes_IndexByte (b o n c : Nat) (xs : List Int) (cv : Int) (w : World) (hx : xs.length = n) (hc : ∀ i, i < n → w.cell? ⟨b, o + i, none⟩ = some (.int .u8 (xs.getD i 0))) :
    Calls Tryz.prog 69 #[.slice (some ⟨b, o, none⟩) n c, .int .u8 cv] w fun e w' => e = .returned (.int .i64 (Lib.indexByte (Lib.bytesOf xs) cv.toNat.toUInt8)) ∧ w' = w := Any.bytes_IndexByte Tryz.lays187 b o n c xs cv w hx hc
end Go.Proofs

namespace Go.Proofs.YtgpbgldnaongnaaGreatDoor
open Go.RowKit
set_option maxRecDepth 20000

namespace Mm
/-- what stands whatever is done at new blocks -/
def Stays (F : World → Prop) (w : World) : Prop := ∀ w', Below w.heap.size w w' → F w'
theorem Stays.on {F : World → Prop} {w w' : World} (h : Stays F w) (hb : Below w.heap.size w w') : Stays F w' := fun _ hb' => h _ (hb.trans (hb'.mono hb.size))
theorem Stays.here {F : World → Prop} {w : World} (h : Stays F w) : F w := h _ (Below.refl _ _)
theorem var_below {w w' : World} {n : String} {cs : Array Value} (hb : Below w.heap.size w w') (h : w.var? Tryz.prog n = some cs) : w'.var? Tryz.prog n = some cs := by
  unfold World.var? at *
  cases hg : Program.globalNamed Tryz.prog n with
  | none => simp [hg] at h
  | some g =>
    simp only [hg, Option.bind_some] at h ⊢
    have hlt : g < w.heap.size := by
      rcases Nat.lt_or_ge g w.heap.size with h' | h'
      · exact h'
      · rw [Array.getElem?_eq_none h'] at h; simp at h
    rw [hb.block g hlt]
    exact h
def Tab (w : World) : Prop := Stays (fun w => Lib.TabIs Tryz.prog w "internal/strconv.uint64pow10" .u64 Lib.pow10Tab) w
def Errs (w : World) : Prop := Stays (fun w => (∃ tp p, w.var? Tryz.prog "strconv.ErrSyntax" = some #[.iface tp p]) ∧ (∃ tp p, w.var? Tryz.prog "strconv.ErrRange" = some #[.iface tp p])) w
theorem tab_of {w : World} (h : Lib.TabIs Tryz.prog w "internal/strconv.uint64pow10" .u64 Lib.pow10Tab) : Tab w := fun _ hb => Lib.tabBelow_of_tabIs h _ hb
theorem errs_of {w : World} (h1 : ∃ tp p, w.var? Tryz.prog "strconv.ErrSyntax" = some #[.iface tp p]) (h2 : ∃ tp p, w.var? Tryz.prog "strconv.ErrRange" = some #[.iface tp p]) : Errs w := fun w' hb => by
  obtain ⟨t1, p1, h1⟩ := h1
  obtain ⟨t2, p2, h2⟩ := h2
  exact ⟨⟨t1, p1, var_below hb h1⟩, ⟨t2, p2, var_below hb h2⟩⟩
theorem below_grow (w : World) (k : Nat) (os : Array Obj) : Below w.heap.size w (Sort.grow (w.drewN k) os) := Lib.below_grow _ w (Nat.le_refl _) k os
end Mm

theorem text_walk (n : Int) (w : World) (hn : Pl.In64 n) (hT : Mm.Tab w) :
    Calls Tryz.prog 30 #[.int .i64 n] w fun e w' => e = .returned (.string (Pl.B (Lib.itoa n))) ∧ Below w.heap.size w w' := by
  have HT := Pl.hid hT
  have HN := Pl.hid hn
  clear hT hn
  go_enter Tryz.func30, Tryz.ntmps30
  go_wp2_with fail
  refine (Tryz.strconv_FormatInt_10 n HN.out.1 HN.out.2 _ HT.out.here).mono ?_
  rintro e w1 ⟨rfl, k, os, rfl⟩
  have H := Pl.hid (Mm.below_grow w k os)
  go_wp2_with fail
  go_ret
  exact ⟨rfl, H.out⟩

/-! how the library's two readers end -/
theorem pint_walk (s : ByteArray) (w : World) (hs : s.size ≤ 140737488351232) (hE : Mm.Errs w) :
    Calls Tryz.prog 86 #[.string s, .int .i64 10, .int .i64 64] w fun e w' => (∃ v ev, e = .returned (.tuple #[.int .i64 v, ev]) ∧ (ev = .nilIface ∧ Lib.parseIntB 64 (Pl.L s) = .ok v ∨ (∃ tp p, ev = .iface tp (.pointer (some p))) ∧ ∀ u, Lib.parseIntB 64 (Pl.L s) ≠ .ok u)) ∧ Below w.heap.size w w' := by
  obtain ⟨⟨t1, p1, h1⟩, ⟨t2, p2, h2⟩⟩ := hE.here
  rcases h : Lib.parseIntB 64 s.data.toList with v | _ | _
  · skip
    refine (Tryz.strconv_ParseInt_10_at64_ok s (by omega) v h w).mono ?_
    rintro e w1 ⟨rfl, hw⟩
    refine ⟨⟨v, _, rfl, .inl ⟨rfl, h⟩⟩, ?_⟩
    rcases hw with rfl | ⟨t, rfl⟩
    · exact Below.refl _ _
    · exact Lib.bytesWorld_below _ _ _
  · refine (Tryz.strconv_ParseInt_10_at64_syntax_var s (by omega) h t1 p1 w h1).mono ?_
    rintro e w1 ⟨N, rfl, _, _, hb⟩
    exact ⟨⟨_, _, rfl, .inr ⟨⟨_, _, rfl⟩, fun u e => by unfold Pl.L at e; rw [h] at e; cases e⟩⟩, hb⟩
  · refine (Tryz.strconv_ParseInt_10_at64_range_var s (by omega) h t2 p2 w h2).mono ?_
    rintro e w1 ⟨N, rfl, _, _, hb⟩
    exact ⟨⟨_, _, rfl, .inr ⟨⟨_, _, rfl⟩, fun u e => by unfold Pl.L at e; rw [h] at e; cases e⟩⟩, hb⟩
namespace Pl
theorem rI_ok {l : List UInt8} {v : Int} (h : Lib.parseIntB 64 l = .ok v) (hp : plainW (iW l) = true) : v = rIv l ∧ 0 = rIc l := by
  have e := cI_eq l
  unfold cI at e
  rw [h] at e
  simp only [hp, if_true] at e
  unfold rIv rIc
  rw [← e]
  exact ⟨rfl, rfl⟩
theorem rI_none {l : List UInt8} (h : rI l = none) : 0 = rIv l ∧ 10 = rIc l := by
  unfold rIv rIc
  rw [h]
  exact ⟨rfl, rfl⟩
theorem rI_err {l : List UInt8} (h : ∀ u, Lib.parseIntB 64 l ≠ .ok u) : 0 = rIv l ∧ 10 = rIc l := by
  apply rI_none
  rw [← cI_eq]
  unfold cI
  rcases e : Lib.parseIntB 64 l with v | _ | _
  · exact absurd e (h v)
  · rfl
  · rfl
theorem rI_not {l : List UInt8} (h : plainW (iW l) = false) : 0 = rIv l ∧ 10 = rIc l := by
  apply rI_none
  rw [← cI_eq]
  unfold cI
  rw [h]
  cases e : Lib.parseIntB 64 l <;> rfl
theorem rU_ok {l : List UInt8} {v : Nat} (h : Lib.parseUintB 64 l = .ok v) (hp : plainW l = true) : (v : Int) = rUv l ∧ 0 = rUc l := by
  have e := cU_eq l
  unfold cU at e
  rw [h] at e
  simp only [hp, if_true] at e
  unfold rUv rUc
  rw [← e]
  exact ⟨rfl, rfl⟩
theorem rU_none {l : List UInt8} (h : rU l = none) : 0 = rUv l ∧ 10 = rUc l := by
  unfold rUv rUc
  rw [h]
  exact ⟨rfl, rfl⟩
theorem rU_err {l : List UInt8} (h : ∀ u, Lib.parseUintB 64 l ≠ .ok u) : 0 = rUv l ∧ 10 = rUc l := by
  apply rU_none
  rw [← cU_eq]
  unfold cU
  rcases e : Lib.parseUintB 64 l with v | _ | _
  · exact absurd e (h v)
  · rfl
  · rfl
theorem rU_not {l : List UInt8} (h : plainW l = false) : 0 = rUv l ∧ 10 = rUc l := by
  apply rU_none
  rw [← cU_eq]
  unfold cU
  rw [h]
  cases e : Lib.parseUintB 64 l <;> rfl
theorem iW_same {l : List UInt8} (h : ¬ (1 < l.length ∧ l.head? = some 45 ∧ l ≠ [45, 48])) : iW l = l := if_neg h
theorem iW_tail {s : ByteArray} (h1 : 1 < s.size) (h2 : (L s).head? = some 45) (h3 : L s ≠ [45, 48]) : L (s.extract 1 s.size) = iW (L s) := by
  rw [show iW (L s) = (L s).tail from if_pos ⟨by rw [L_length]; exact h1, h2, h3⟩, extract_B, L_B]
  unfold slc
  rw [List.take_of_length_le (by rw [List.length_drop, L_length]; exact Nat.le_refl _), List.drop_one]
end Pl

theorem int_walk (s : ByteArray) (w : World) (hs : s.size ≤ 140737488351232) (hE : Mm.Errs w) :
    Calls Tryz.prog 68 #[.string s] w fun e w' => e = .returned (.tuple #[.int .i64 (Pl.rIv (Pl.L s)), .int .i64 (Pl.rIc (Pl.L s))]) ∧ Below w.heap.size w w' := by
  have HE := Pl.hid hE
  have HLen := Pl.hid (Pl.L_length s)
  clear hE
  rcases Nat.lt_or_ge 1 s.size with hsz | hsz
  · by_cases hc : (s[0]'(by omega)).toNat = 45
    · have hc' : (((s[0]'(by omega)).toNat : Int) == 45) = true := beq_iff_eq.2 (by omega)
      have HH : Hid ((Pl.L s).head? = some 45) := by
        show _ = _
        rw [Pl.head_L s (by omega)]
        congr 1
        exact UInt8.toNat_inj.1 hc
      clear hc
      by_cases h0 : Pl.L s = [45, 48]
      · have e0 := Pl.toL_eq h0
        have HX := Pl.hid (Pl.iW_same (l := Pl.L s) (fun h => h.2.2 h0))
        clear h0
        go_enter Tryz.func68, Tryz.ntmps68
        go_wp2_with fail
        refine (pint_walk _ _ hs HE.out).mono ?_
        rintro e w1 ⟨⟨v, ev, rfl, hv⟩, hb⟩
        have HV := Pl.hid hv
        have HB := Pl.hid hb
        clear hv hb
        cases hp : Pl.plainW (Pl.iW (Pl.L s)) with
        | false =>
          have HR := Pl.hid (Pl.rI_not hp)
          go_wp2_with fail
          refine (plain_walk _ _ hs).mono ?_
          rw [← HX.out, hp]
          rintro e w2 ⟨rfl, rfl⟩
          go_wp2_with fail
          go_ret2
          exact ⟨Pl.ret2ii HR.out.1 HR.out.2, HB.out⟩
        | true =>
          rcases HV.out with ⟨rfl, h⟩ | ⟨⟨tp, p, rfl⟩, h⟩
          · have HR := Pl.hid (Pl.rI_ok h hp)
            clear h HV
            go_wp2_with fail
            refine (plain_walk _ _ hs).mono ?_
            rw [← HX.out, hp]
            rintro e w2 ⟨rfl, rfl⟩
            go_wp2_with fail
            go_ret2
            exact ⟨Pl.ret2ii HR.out.1 HR.out.2, HB.out⟩
          · have HR := Pl.hid (Pl.rI_err h)
            clear h HV
            go_wp2_with fail
            refine (plain_walk _ _ hs).mono ?_
            rw [← HX.out, hp]
            rintro e w2 ⟨rfl, rfl⟩
            go_wp2_with fail
            go_ret2
            exact ⟨Pl.ret2ii HR.out.1 HR.out.2, HB.out⟩
      · have e0 := Pl.toL_ne h0
        have HX := Pl.hid (Pl.iW_tail hsz HH.out h0)
        have HZ : Hid ((s.extract 1 s.size).size ≤ 140737488351232) := by
          show _ ≤ _
          rw [ByteArray.size_extract]
          omega
        clear h0
        go_enter Tryz.func68, Tryz.ntmps68
        go_wp2_with fail
        refine (pint_walk _ _ hs HE.out).mono ?_
        rintro e w1 ⟨⟨v, ev, rfl, hv⟩, hb⟩
        have HV := Pl.hid hv
        have HB := Pl.hid hb
        clear hv hb
        cases hp : Pl.plainW (Pl.iW (Pl.L s)) with
        | false =>
          have HR := Pl.hid (Pl.rI_not hp)
          go_wp2_with fail
          refine (plain_walk _ _ HZ.out).mono ?_
          rw [HX.out, hp]
          rintro e w2 ⟨rfl, rfl⟩
          go_wp2_with fail
          go_ret2
          exact ⟨Pl.ret2ii HR.out.1 HR.out.2, HB.out⟩
        | true =>
          rcases HV.out with ⟨rfl, h⟩ | ⟨⟨tp, p, rfl⟩, h⟩
          · have HR := Pl.hid (Pl.rI_ok h hp)
            clear h HV
            go_wp2_with fail
            refine (plain_walk _ _ HZ.out).mono ?_
            rw [HX.out, hp]
            rintro e w2 ⟨rfl, rfl⟩
            go_wp2_with fail
            go_ret2
            exact ⟨Pl.ret2ii HR.out.1 HR.out.2, HB.out⟩
          · have HR := Pl.hid (Pl.rI_err h)
            clear h HV
            go_wp2_with fail
            refine (plain_walk _ _ HZ.out).mono ?_
            rw [HX.out, hp]
            rintro e w2 ⟨rfl, rfl⟩
            go_wp2_with fail
            go_ret2
            exact ⟨Pl.ret2ii HR.out.1 HR.out.2, HB.out⟩
    · have hc' : (((s[0]'(by omega)).toNat : Int) == 45) = false := beq_eq_false_iff_ne.2 (by omega)
      have HX := Pl.hid (Pl.iW_same (l := Pl.L s) (fun h => by
        have h2 := h.2.1
        rw [Pl.head_L s (by omega)] at h2
        injection h2 with h2
        exact hc (by rw [h2]; rfl)))
      clear hc
      go_enter Tryz.func68, Tryz.ntmps68
      go_wp2_with fail
      refine (pint_walk _ _ hs HE.out).mono ?_
      rintro e w1 ⟨⟨v, ev, rfl, hv⟩, hb⟩
      have HV := Pl.hid hv
      have HB := Pl.hid hb
      clear hv hb
      cases hp : Pl.plainW (Pl.iW (Pl.L s)) with
      | false =>
        have HR := Pl.hid (Pl.rI_not hp)
        go_wp2_with fail
        refine (plain_walk _ _ hs).mono ?_
        rw [← HX.out, hp]
        rintro e w2 ⟨rfl, rfl⟩
        go_wp2_with fail
        go_ret2
        exact ⟨Pl.ret2ii HR.out.1 HR.out.2, HB.out⟩
      | true =>
        rcases HV.out with ⟨rfl, h⟩ | ⟨⟨tp, p, rfl⟩, h⟩
        · have HR := Pl.hid (Pl.rI_ok h hp)
          clear h HV
          go_wp2_with fail
          refine (plain_walk _ _ hs).mono ?_
          rw [← HX.out, hp]
          rintro e w2 ⟨rfl, rfl⟩
          go_wp2_with fail
          go_ret2
          exact ⟨Pl.ret2ii HR.out.1 HR.out.2, HB.out⟩
        · have HR := Pl.hid (Pl.rI_err h)
          clear h HV
          go_wp2_with fail
          refine (plain_walk _ _ hs).mono ?_
          rw [← HX.out, hp]
          rintro e w2 ⟨rfl, rfl⟩
          go_wp2_with fail
          go_ret2
          exact ⟨Pl.ret2ii HR.out.1 HR.out.2, HB.out⟩
  · have HX := Pl.hid (Pl.iW_same (l := Pl.L s) (fun h => by have := h.1; rw [Pl.L_length] at this; omega))
    go_enter Tryz.func68, Tryz.ntmps68
    go_wp2_with fail
    refine (pint_walk _ _ hs HE.out).mono ?_
    rintro e w1 ⟨⟨v, ev, rfl, hv⟩, hb⟩
    have HV := Pl.hid hv
    have HB := Pl.hid hb
    clear hv hb
    cases hp : Pl.plainW (Pl.iW (Pl.L s)) with
    | false =>
      have HR := Pl.hid (Pl.rI_not hp)
      go_wp2_with fail
      refine (plain_walk _ _ hs).mono ?_
      rw [← HX.out, hp]
      rintro e w2 ⟨rfl, rfl⟩
      go_wp2_with fail
      go_ret2
      exact ⟨Pl.ret2ii HR.out.1 HR.out.2, HB.out⟩
    | true =>
      rcases HV.out with ⟨rfl, h⟩ | ⟨⟨tp, p, rfl⟩, h⟩
      · have HR := Pl.hid (Pl.rI_ok h hp)
        clear h HV
        go_wp2_with fail
        refine (plain_walk _ _ hs).mono ?_
        rw [← HX.out, hp]
        rintro e w2 ⟨rfl, rfl⟩
        go_wp2_with fail
        go_ret2
        exact ⟨Pl.ret2ii HR.out.1 HR.out.2, HB.out⟩
      · have HR := Pl.hid (Pl.rI_err h)
        clear h HV
        go_wp2_with fail
        refine (plain_walk _ _ hs).mono ?_
        rw [← HX.out, hp]
        rintro e w2 ⟨rfl, rfl⟩
        go_wp2_with fail
        go_ret2
        exact ⟨Pl.ret2ii HR.out.1 HR.out.2, HB.out⟩

end Go.Proofs.YtgpbgldnaongnaaGreatDoor

namespace Go.Proofs.YtgpbgldnaongnaaGreatDoor
open Go.RowKit
set_option maxRecDepth 20000

namespace Pl
structure Pst where
  used : Nat
  words : List (List UInt8)
  left : Nat
  size : Nat
  need : Int
  ready : List (List (List UInt8))
  err : Bool
deriving DecidableEq
def fresh : Pst := ⟨0, [], 0, 0, -1, [], false⟩
def ixM (l : List UInt8) (m : Nat) : Int := Lib.indexByte (l.take (m + 1)) 10
def lineM (l : List UInt8) (m : Nat) : Option (List UInt8) := if ixM l m = -1 then none else some (l.take (ixM l m).toNat)
/-- does a line end by a CR? -/
def crB (t : List UInt8) : Bool := decide (t.getLast? = some 13)
def cutM (t : List UInt8) : List UInt8 := if crB t = true then t.dropLast else t
def numOk (t : List UInt8) (lo hi : Int) : Bool := crB t && decide (2 ≤ t.length) && decide (rIc t.dropLast.tail = 0) && decide (lo ≤ rIv t.dropLast.tail) && decide (rIv t.dropLast.tail ≤ hi)
/-- the number of a header line and its length; or whether that is an error -/
def numM (l : List UInt8) (lo hi : Int) : Option (Int × Nat) × Bool :=
  match lineM l 32 with
  | none => (none, decide (32 < l.length))
  | some t => if numOk t lo hi = true then (some (rIv t.dropLast.tail, t.length + 1), false) else (none, true)
def countM (st : Pst) (l : List UInt8) : Nat × Pst :=
  match numM l (-1) 1024 with
  | (none, e) => (0, { st with err := e })
  | (some (n, k), _) => (k, if 0 < n then { st with left := n.toNat, size := 0, words := [], used := k } else st)
def lengthM (st : Pst) (l : List UInt8) : Nat × Pst :=
  if l.head? ≠ some 36 then (0, { st with err := true }) else
  match numM l 0 1048576 with
  | (none, e) => (0, { st with err := e })
  | (some (n, k), _) => if 4194304 < st.size + n.toNat then (0, { st with size := st.size + n.toNat, err := true }) else (k, { st with size := st.size + n.toNat, need := n, used := st.used + k })
def wordM (st : Pst) (l : List UInt8) : Nat × Pst :=
  if st.need.toNat < l.length ∧ l[st.need.toNat]? ≠ some 13 ∨ st.need.toNat + 1 < l.length ∧ l[st.need.toNat + 1]? ≠ some 10 then (0, { st with err := true })
  else if l.length < st.need.toNat + 2 then (0, st)
  else (st.need.toNat + 2,
    if st.left = 1 then { st with used := 0, words := [], left := 0, need := -1, ready := st.ready ++ [st.words ++ [l.take st.need.toNat]] }
    else { st with words := st.words ++ [l.take st.need.toNat], need := -1, left := st.left - 1, used := st.used + (st.need.toNat + 2) })
def inlineM (st : Pst) (l : List UInt8) : Nat × Pst :=
  match lineM l 4096 with
  | none => (0, { st with err := decide (4096 < l.length) })
  | some t => match inl 4098 (cutM t) [] with
    | (0, ws) => (t.length + 1, if ws = [] then st else { st with ready := st.ready ++ [ws] })
    | _ => (0, { st with err := true })
def partM (st : Pst) (l : List UInt8) : Nat × Pst :=
  if l = [] then (0, st) else if 0 ≤ st.need then wordM st l else if 0 < st.left then lengthM st l else if l.head? = some 42 then countM st l else inlineM st l
/-- the parts that bytes have, one behind the other -/
def feedM : Nat → Pst → List UInt8 → Pst × List UInt8
  | 0, st, l => (st, l)
  | f + 1, st, l => if st.err = true then (st, l) else if (partM st l).1 = 0 then ((partM st l).2, l) else feedM f (partM st l).2 (l.drop (partM st l).1)
/-- a state that may be -/
def okS (st : Pst) : Prop := st.size ≤ 5242880 ∧ -1 ≤ st.need ∧ st.need ≤ 1048576 ∧ st.left ≤ 1024 ∧ (0 ≤ st.need → 0 < st.left)
theorem ixM_lt {l : List UInt8} {m : Nat} (h : ixM l m ≠ -1) : 0 ≤ ixM l m ∧ (ixM l m).toNat < l.length ∧ (ixM l m).toNat ≤ m ∧ l[(ixM l m).toNat]? = some 10 := by
  have hge := Lib.indexByte_ge (l.take (m + 1)) 10
  have h0 : 0 ≤ ixM l m := by unfold ixM at *; omega
  have h1 := (Lib.indexByte_some (l := l.take (m + 1)) (c := 10) (o := (ixM l m).toNat) (by unfold ixM at *; omega)).1
  have h2 := (List.getElem?_eq_some_iff.1 h1).1
  rw [List.length_take] at h2
  refine ⟨h0, by omega, by omega, ?_⟩
  rw [List.getElem?_take] at h1
  split at h1
  · exact h1
  · cases h1
theorem lineM_some {l t : List UInt8} {m : Nat} (h : lineM l m = some t) : ixM l m ≠ -1 ∧ ixM l m = t.length ∧ t = l.take t.length ∧ t.length < l.length ∧ t.length ≤ m := by
  unfold lineM at h
  split at h
  · cases h
  · rename_i h0
    injection h with h
    obtain ⟨h1, h2, h3, _⟩ := ixM_lt h0
    have hl : t.length = (ixM l m).toNat := by rw [← h, List.length_take]; omega
    exact ⟨h0, by omega, by rw [hl, h], by omega, by omega⟩
theorem lineM_none {l : List UInt8} {m : Nat} (h : lineM l m = none) : ixM l m = -1 := by
  unfold lineM at h
  split at h
  · assumption
  · cases h
end Pl

namespace Mm
open Pl
def noA (a b : Value) : Prop := ∀ g, a.ownBlock = some g → b.ownBlock = some g → False
def ErrV (e : Bool) (v : Value) : Prop := (e = true ∧ ∃ T x, v = .iface T x) ∨ (e = false ∧ v = .nilIface)
/-- rows of texts, one behind the other -/
def Rdy (w : World) (b : Nat) (rows : List Value) (ready : List (List (List UInt8))) : Prop := rows.length = ready.length ∧ ∀ (i : Nat) (l : List (List UInt8)), ready[i]? = some l → ∃ v, rows[i]? = some v ∧ OwnS w b v l
def cellsP (bv wv rv ev : Value) (st : Pst) : Array Value := #[bv, .int .i64 (st.used : Int), wv, .int .i64 (st.left : Int), .int .i64 (st.size : Int), .int .i64 st.need, rv, ev]
def foot (p : Nat) (wv rv : Value) (rows : List Value) (g : Nat) : Prop := g = p ∨ wv.ownBlock = some g ∨ rv.ownBlock = some g ∨ ∃ v ∈ rows, v.ownBlock = some g
/-- the parser at block p, of which the bytes' field is bv -/
def PV (w : World) (p : Nat) (bv : Value) (st : Pst) (wv rv ev : Value) (rows : List Value) : Prop :=
  w.heap[p]? = some (.cells (cellsP bv wv rv ev st) 64 (0, 0)) ∧ OwnS w (p + 1) wv st.words ∧ w.ownsRow (p + 1) 39 1 rv rows.length rows ∧ Rdy w (p + 1) rows st.ready ∧
  noA wv rv ∧ (∀ v ∈ rows, noA v wv ∧ noA v rv) ∧ ErrV st.err ev
def PQ (w : World) (p : Nat) (bv : Value) (st : Pst) (F : Nat → Prop) : Prop := ∃ wv rv ev rows, PV w p bv st wv rv ev rows ∧ F = foot p wv rv rows
/-- what a call of the parser changes -/
structure Chg (w : World) (F : Nat → Prop) (w' : World) (F' : Nat → Prop) : Prop where
  os : w'.os = w.os
  tape : w'.tape = w.tape
  output : w'.output = w.output
  size : w.heap.size ≤ w'.heap.size
  block : ∀ g, g < w.heap.size → ¬ F g → w'.heap[g]? = w.heap[g]?
  foot : ∀ g, F' g → F g ∨ w.heap.size ≤ g
theorem Chg.refl (w : World) (F : Nat → Prop) : Chg w F w F := ⟨rfl, rfl, rfl, Nat.le_refl _, fun _ _ _ => rfl, fun _ h => .inl h⟩
theorem Chg.trans {a b c : World} {F G H : Nat → Prop} (h : Chg a F b G) (k : Chg b G c H) : Chg a F c H :=
  ⟨k.os.trans h.os, k.tape.trans h.tape, k.output.trans h.output, Nat.le_trans h.size k.size, fun g hg hf => (k.block g (Nat.lt_of_lt_of_le hg h.size) (fun hG => by rcases h.foot g hG with h1 | h1; exact hf h1; omega)).trans (h.block g hg hf),
   fun g hg => by
    rcases k.foot g hg with h1 | h1
    · exact h.foot g h1
    · exact .inr (Nat.le_trans h.size h1)⟩
theorem Chg.grown {w w' : World} {F F' : Nat → Prop} {r : Option Nat} (h : w.grownBy w' r) (hr : ∀ g, r = some g → F g) (hF : ∀ g, F' g → F g ∨ w.heap.size ≤ g) : Chg w F w' F' :=
  ⟨h.os, h.tape, h.output, h.size, fun g hg hf => h.block g hg (fun e => hf (hr g e.symm)), hF⟩
theorem Chg.below {w w' : World} {F : Nat → Prop} (h : Below w.heap.size w w') : Chg w F w' F := ⟨h.os, h.tape, h.output, h.size, fun g hg _ => h.block g hg, fun _ h => .inl h⟩
theorem Chg.under {W w w' : World} {F F' : Nat → Prop} (h : Chg w F w' F') (hW : Below W.heap.size W w) (hF : ∀ g, F g → W.heap.size ≤ g) : Below W.heap.size W w' :=
  ⟨h.os.trans hW.os, h.tape.trans hW.tape, h.output.trans hW.output, Nat.le_trans hW.size h.size, fun g hg => (h.block g (Nat.lt_of_lt_of_le hg hW.size) (fun hf => by have := hF g hf; omega)).trans (hW.block g hg)⟩
theorem PV.lt {w : World} {p : Nat} {bv wv rv ev : Value} {st : Pst} {rows : List Value} (h : PV w p bv st wv rv ev rows) : p < w.heap.size := (Array.getElem?_eq_some_iff.1 h.1).1
theorem PV.cell {w : World} {p : Nat} {bv wv rv ev : Value} {st : Pst} {rows : List Value} (h : PV w p bv st wv rv ev rows) (i : Nat) (v : Value) (hv : (cellsP bv wv rv ev st)[i]? = some v) : w.cell? ⟨p, i, none⟩ = some v := by
  rw [cell_of_row w p i _ _ _ h.1]
  exact hv
theorem Rdy.keep {w w' : World} {b : Nat} {rows : List Value} {ready : List (List (List UInt8))} (h : Rdy w b rows ready) (hb : ∀ v ∈ rows, ∀ g, v.ownBlock = some g → w'.heap[g]? = w.heap[g]?) : Rdy w' b rows ready :=
  ⟨h.1, fun i l hl => by
    obtain ⟨v, h1, h2⟩ := h.2 i l hl
    exact ⟨v, h1, h2.keep (hb v (List.mem_of_getElem? h1))⟩⟩
theorem ownsRow_keep {w w' : World} {b : Nat} {t : TypeId} {k : Nat} {v : Value} {n : Nat} {cs : List Value} (h : w.ownsRow b t k v n cs) (hb : ∀ g, v.ownBlock = some g → w'.heap[g]? = w.heap[g]?) : w'.ownsRow b t k v n cs := by
  obtain ⟨hl, h0 | ⟨g, cap, cur, hv, hg, hh, r⟩⟩ := h
  · exact ⟨hl, .inl h0⟩
  · exact ⟨hl, .inr ⟨g, cap, cur, hv, hg, by rw [hb g (by rw [hv]; rfl)]; exact hh, r⟩⟩
theorem Rdy.row {w : World} {b : Nat} {rows : List Value} {ready : List (List (List UInt8))} (h : Rdy w b rows ready) {v : Value} (hv : v ∈ rows) : ∃ l, OwnS w b v l := by
  obtain ⟨i, hi, e⟩ := List.mem_iff_getElem.1 hv
  have h1 : i < ready.length := by rw [← h.1]; exact hi
  obtain ⟨v', h2, h3⟩ := h.2 i _ (List.getElem?_eq_getElem h1)
  rw [List.getElem?_eq_getElem hi] at h2
  injection h2 with h2
  exact ⟨_, by rw [← e, h2]; exact h3⟩
/-- a call that leaves all that is there -/
theorem PV.below {w w' : World} {p : Nat} {bv wv rv ev : Value} {st : Pst} {rows : List Value} (h : PV w p bv st wv rv ev rows) (hb : Below w.heap.size w w') : PV w' p bv st wv rv ev rows :=
  ⟨(hb.block p h.lt).trans h.1, h.2.1.below hb, ownsRow_keep h.2.2.1 (fun g hg => hb.block g (h.2.2.1.lt g hg).2), h.2.2.2.1.keep (fun v hv g hg => by
    obtain ⟨l, ho⟩ := h.2.2.2.1.row hv
    exact hb.block g (ho.lt g hg).2), h.2.2.2.2⟩
/-- a store to the parser's own block -/
theorem PV.store {w w' : World} {p : Nat} {bv wv rv ev bv' ev' : Value} {st st' : Pst} {rows : List Value} (h : PV w p bv st wv rv ev rows) (hg : w.grownBy w' (some p)) (hp : w'.heap[p]? = some (.cells (cellsP bv' wv rv ev' st') 64 (0, 0)))
    (h1 : st'.words = st.words) (h2 : st'.ready = st.ready) (h3 : ErrV st'.err ev') : PV w' p bv' st' wv rv ev' rows := by
  have hne : ∀ g, p + 1 ≤ g → ¬ some g = some p := fun g hg e => by injection e with e; omega
  refine ⟨hp, ?_, ownsRow_keep h.2.2.1 (fun g hg' => hg.block g (h.2.2.1.lt g hg').2 (hne g (h.2.2.1.lt g hg').1)), ?_, h.2.2.2.2.1, h.2.2.2.2.2.1, h3⟩
  · rw [h1]
    exact h.2.1.keep (fun g hg' => hg.block g (h.2.1.lt g hg').2 (hne g (h.2.1.lt g hg').1))
  · rw [h2]
    exact h.2.2.2.1.keep (fun v hv g hg' => by
      obtain ⟨l, ho⟩ := h.2.2.2.1.row hv
      exact hg.block g (ho.lt g hg').2 (hne g (ho.lt g hg').1))
/-- bytes of a stretch of memory that may be empty -/
def Rest (w : World) (v : Value) (l : List UInt8) : Prop := ∃ a c, v = .slice a l.length c ∧ l.length ≤ c ∧ (0 < l.length → ∃ g o, a = some ⟨g, o, none⟩ ∧ BytesAt w g o l)
end Mm
end Go.Proofs.YtgpbgldnaongnaaGreatDoor

namespace Go.Proofs.YtgpbgldnaongnaaGreatDoor
open Go.RowKit
set_option maxRecDepth 20000

namespace Pl
def natL (l : List UInt8) : List Int := l.map fun c => (c.toNat : Int)
theorem natL_length (l : List UInt8) : (natL l).length = l.length := by simp [natL]
theorem bytesOf_natL (l : List UInt8) : Lib.bytesOf (natL l) = l := by
  unfold Lib.bytesOf natL
  rw [List.map_map]
  conv => rhs; rw [← List.map_id l]
  refine List.map_congr_left fun c _ => ?_
  simp
theorem natL_getD (l : List UInt8) (i : Nat) (h : i < l.length) : (natL l).getD i 0 = at_ l i := by
  unfold natL at_
  rw [List.getD_eq_getElem?_getD, List.getD_eq_getElem?_getD, List.getElem?_map, List.getElem?_eq_getElem h]
  rfl
theorem at_take (l : List UInt8) (k i : Nat) (h : i < k) : at_ (l.take k) i = at_ l i := by
  unfold at_
  rw [List.getD_eq_getElem?_getD, List.getD_eq_getElem?_getD, List.getElem?_take, if_pos h]
theorem at_drop (l : List UInt8) (k i : Nat) : at_ (l.drop k) i = at_ l (k + i) := by
  unfold at_
  rw [List.getD_eq_getElem?_getD, List.getD_eq_getElem?_getD, List.getElem?_drop]
end Pl

namespace Mm
open Pl
theorem BytesAt.take {w : World} {g o : Nat} {l : List UInt8} (h : BytesAt w g o l) (k : Nat) : BytesAt w g o (l.take k) := fun j hj => by
  rw [List.length_take] at hj
  rw [at_take _ _ _ (by omega)]
  exact h j (by omega)
theorem BytesAt.drop {w : World} {g o : Nat} {l : List UInt8} (h : BytesAt w g o l) (k : Nat) : BytesAt w g (o + k) (l.drop k) := fun j hj => by
  rw [List.length_drop] at hj
  rw [at_drop, Nat.add_assoc]
  exact h (k + j) (by omega)
theorem BytesAt.nums {w : World} {g o : Nat} {l : List UInt8} (h : BytesAt w g o l) : ∀ i, i < l.length → w.cell? ⟨g, o + i, none⟩ = some (.int .u8 ((natL l).getD i 0)) := fun i hi => by
  rw [natL_getD l i hi]
  exact h i hi
theorem BytesAt.byteIn {w : World} {g o : Nat} {l : List UInt8} {a : Option Addr} (h : 0 < l.length → a = some ⟨g, o, none⟩ ∧ BytesAt w g o l) : Lib.BytesIn w a l.length (natL l) := fun h0 => ⟨g, o, (h h0).1, (h h0).2.nums⟩
/-- the six errors stand as they were laid -/
def RErr (w : World) : Prop := Stays (fun w => ∀ g, g = 4 ∨ g = 2 ∨ g = 1 ∨ g = 0 ∨ g = 5 ∨ g = 3 → ∃ T x, w.cell? ⟨g, 0, none⟩ = some (.iface T x)) w
end Mm

set_option maxHeartbeats 4000000 in
theorem line_some (pv : Value) (g o c m : Nat) (M : Int) (hM : M = (m : Int)) (l t : List UInt8) (w : World) (hl : l.length ≤ 140737488351232) (hc : l.length ≤ c) (h0 : 0 < l.length) (hm : m ≤ 4096) (h : Mm.BytesAt w g o l) (ht : Pl.lineM l m = some t) :
    Calls Tryz.prog 50 #[pv, .slice (some ⟨g, o, none⟩) l.length c, .int .i64 M] w fun e w' => e = .returned (.tuple #[.slice (some ⟨g, o, none⟩) t.length t.length, .bool true]) ∧ w = w' := by
  subst hM
  obtain ⟨_, h1, _, h3, h4⟩ := Pl.lineM_some ht
  have HM := Pl.hid h
  have HX : Hid (Lib.indexByte (Lib.bytesOf (Pl.natL (l.take (m + 1)))) (10 : Int).toNat.toUInt8 = (t.length : Int)) := by
    show _ = _
    rw [Pl.bytesOf_natL]
    exact h1
  have HN := Pl.hid ((HM.out.take (m + 1)).nums)
  have hcz : ¬ c = 0 := by omega
  have htc : t.length ≤ c := by omega
  clear h ht h1 h3 h4
  generalize t.length = k at htc HX ⊢
  go_enter Tryz.func50, Tryz.ntmps50
  go_wp2_with fail
  have hk : (min (l.length : Int) ((m : Int) + 1)).toNat = (l.take (m + 1)).length := by rw [List.length_take]; omega
  rw [hk]
  refine (Tryz.bytes_IndexByte g o _ c (Pl.natL (l.take (m + 1))) 10 w (Pl.natL_length _) HN.out).mono ?_
  rw [HX.out]
  rintro e w1 ⟨rfl, rfl⟩
  clear hk hm hc h0 hl HX HN HM
  have hneg : decide ((k : Int) < 0) = false := decide_eq_false (by omega)
  go_wp2_with fail
  go_ret2
  exact ⟨rfl, rfl⟩

set_option maxHeartbeats 4000000 in
theorem line_none (p g o c m : Nat) (M : Int) (hM : M = (m : Int)) (l : List UInt8) (bv : Value) (st : Pl.Pst) (F : Nat → Prop) (W w : World) (hE : Mm.RErr W) (hW : Below W.heap.size W w) (hl : l.length ≤ 140737488351232) (hc : l.length ≤ c) (hm : m ≤ 4096) (h : Mm.BytesAt w g o l) (ht : Pl.lineM l m = none)
    (hp : Mm.PQ w p bv st F) (he : st.err = false) :
    Calls Tryz.prog 50 #[.pointer (some ⟨p, 0, none⟩), .slice (some ⟨g, o, none⟩) l.length c, .int .i64 M] w fun e w' => e = .returned (.tuple #[.slice none 0 0, .bool false]) ∧ Mm.PQ w' p bv { st with err := decide (m < l.length) } F ∧ w.grownBy w' (some p) := by
  subst hM
  obtain ⟨wv, rv, ev, rows, hv, rfl⟩ := hp
  obtain ⟨Tt, xx, hx⟩ := (hE.on hW).here 3 (by simp)
  have HV := Pl.hid hv
  have HM := Pl.hid h
  have HX : Hid (Lib.indexByte (Lib.bytesOf (Pl.natL (l.take (m + 1)))) (10 : Int).toNat.toUInt8 = -1) := by
    show _ = _
    rw [Pl.bytesOf_natL]
    exact Pl.lineM_none ht
  have HN := Pl.hid ((HM.out.take (m + 1)).nums)
  have HE := Pl.hid he
  have hpl := hv.lt
  clear h ht hE hW he hv
  go_enter Tryz.func50, Tryz.ntmps50
  go_wp2_with fail
  have hk : (min (l.length : Int) ((m : Int) + 1)).toNat = (l.take (m + 1)).length := by rw [List.length_take]; omega
  rw [hk]
  refine (Tryz.bytes_IndexByte g o _ c (Pl.natL (l.take (m + 1))) 10 w (Pl.natL_length _) HN.out).mono ?_
  rw [HX.out]
  rintro e w1 ⟨rfl, rfl⟩
  clear hk
  rcases Nat.lt_or_ge m l.length with hlm | hlm
  · go_wp2_with (first | (refine Mm.wp_storeF _ rfl 60 _ _ (by rfl) (by kernel_rfl) p 7 64 (Mm.cellsP bv wv rv ev st) (.iface Tt xx) HV.out.1 (by rfl) (by rfl) (by simp [Mm.cellsP]) rfl rfl ?_; intro w2 h2 hz2 hg2; clear hz2))
    go_ret2
    refine ⟨rfl, ⟨wv, rv, .iface Tt xx, rows, HV.out.store hg2 h2 rfl rfl (.inl ⟨decide_eq_true hlm, _, _, rfl⟩), rfl⟩, hg2⟩
  · go_wp2_with fail
    go_ret2
    refine ⟨rfl, ⟨wv, rv, ev, rows, ?_, rfl⟩, ⟨rfl, rfl, rfl, Nat.le_refl _, fun _ _ _ => rfl⟩⟩
    rw [show decide (m < l.length) = st.err by rw [HE.out]; exact decide_eq_false (by omega)]
    exact HV.out
end Go.Proofs.YtgpbgldnaongnaaGreatDoor
