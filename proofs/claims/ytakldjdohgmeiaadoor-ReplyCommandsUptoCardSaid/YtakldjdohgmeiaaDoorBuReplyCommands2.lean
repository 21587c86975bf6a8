/- Plain laws on numbers of 64 bits: no Go in sight. No condition beyond those that stand in each law. Laws on memory for the walks of this seat: bytes in rows that the call itself made. Conditions stand in each law. strings.ContainsAny(s, "\r\n") at every text. Conditions stand in each law. Conditions stand in each law. -/
import Derived.WalkKit
import Derived.Test.YtakldjdohgmeiaaDoorProg
import Derived.Laws.OwnMore
import Derived.Deep.Draws
import Derived.Laws.IdiomStrings
import Derived.Test.YtakldjdohgmeiaaDoorBuReplyCommands1
import Derived.Laws.RangeAny
import Derived.Lib.OthersKept
import Derived.BigQuiet
import Derived.WalkMore
import Derived.BigRegion
namespace Go.Proofs.YtakldjdohgmeiaaDoor.Pl
open Go.RowKit

theorem ret1i {k : IntKind} {a b : Int} (h : a = b) : Ending.returned (.int k a) = .returned (.int k b) := by rw [h]
theorem ret1b {a b : Bool} (h : a = b) : Ending.returned (.bool a) = .returned (.bool b) := by rw [h]
theorem ret1s {a b : ByteArray} (h : a = b) : Ending.returned (.string a) = .returned (.string b) := by rw [h]
theorem ret2si {k : IntKind} {a b : ByteArray} {c d : Int} (h : a = b) (h' : c = d) : Ending.returned (.tuple #[.string a, .int k c]) = .returned (.tuple #[.string b, .int k d]) := by rw [h, h']
theorem ret3sii {k l : IntKind} {a b : ByteArray} {c d e f : Int} (h : a = b) (h' : c = d) (h'' : e = f) : Ending.returned (.tuple #[.string a, .int k c, .int l e]) = .returned (.tuple #[.string b, .int k d, .int l f]) := by rw [h, h', h'']
theorem ret2ii {k l : IntKind} {a b c d : Int} (h : a = b) (h' : c = d) : Ending.returned (.tuple #[.int k a, .int l c]) = .returned (.tuple #[.int k b, .int l d]) := by rw [h, h']
theorem ret2ib {k : IntKind} {a b : Int} {c d : Bool} (h : a = b) (h' : c = d) : Ending.returned (.tuple #[.int k a, .bool c]) = .returned (.tuple #[.int k b, .bool d]) := by rw [h, h']
theorem hid {p : Prop} (h : p) : Hid p := h

def In64 (n : Int) : Prop := -9223372036854775808 ≤ n ∧ n ≤ 9223372036854775807

theorem wrap64_lo (n : Int) : -9223372036854775808 ≤ wrap64 n := by unfold wrap64; omega
theorem wrap64_hi (n : Int) : wrap64 n ≤ 9223372036854775807 := by unfold wrap64; omega

theorem bv_of_wrap (r : BitVec 64) : BitVec.ofInt 64 (IntKind.i64.wrap (r.toNat : Int)) = r := by
  apply BitVec.eq_of_toNat_eq
  rw [BitVec.toNat_ofInt, IntKind.wrap_i64]
  have h := r.isLt
  omega

theorem wrap_neg (r : BitVec 64) : IntKind.i64.wrap (r.toNat : Int) < 0 ↔ r.msb = true := by
  have h := r.isLt
  rw [IntKind.wrap_i64, BitVec.msb_eq_decide]
  simp only [decide_eq_true_eq]
  omega

theorem msb_of (a : Int) (h : In64 a) : (BitVec.ofInt 64 a).msb = decide (a < 0) := by
  obtain ⟨h1, h2⟩ := h
  rw [BitVec.msb_eq_toInt, BitVec.toInt_ofInt]
  have : a.bmod (2 ^ 64) = a := by
    rw [Int.bmod_def]; split <;> omega
  rw [this]

theorem over_iff (a b : Int) (ha : In64 a) (hb : In64 b) :
    bits BinOp.and IntKind.i64 (bits BinOp.xor IntKind.i64 a (wrap64 (a + b))) (bits BinOp.xor IntKind.i64 b (wrap64 (a + b))) < 0 ↔ ¬ In64 (a + b) := by
  have hs : In64 (wrap64 (a + b)) := ⟨wrap64_lo _, wrap64_hi _⟩
  have key : bits BinOp.and IntKind.i64 (bits BinOp.xor IntKind.i64 a (wrap64 (a + b))) (bits BinOp.xor IntKind.i64 b (wrap64 (a + b))) =
      IntKind.i64.wrap (((BitVec.ofInt 64 a ^^^ BitVec.ofInt 64 (wrap64 (a + b))) &&& (BitVec.ofInt 64 b ^^^ BitVec.ofInt 64 (wrap64 (a + b)))).toNat : Int) := by
    show IntKind.i64.wrap ((BitVec.ofInt 64 (IntKind.i64.wrap ((BitVec.ofInt 64 a ^^^ BitVec.ofInt 64 (wrap64 (a + b))).toNat : Int)) &&& BitVec.ofInt 64 (IntKind.i64.wrap ((BitVec.ofInt 64 b ^^^ BitVec.ofInt 64 (wrap64 (a + b))).toNat : Int))).toNat : Int) = _
    rw [bv_of_wrap, bv_of_wrap]
  rw [key, wrap_neg, BitVec.msb_and, BitVec.msb_xor, BitVec.msb_xor, msb_of a ha, msb_of b hb, msb_of _ hs]
  obtain ⟨h1, h2⟩ := ha
  obtain ⟨h3, h4⟩ := hb
  unfold In64 wrap64
  by_cases c1 : a < 0 <;> by_cases c2 : b < 0 <;> simp [c1, c2] <;> omega

/-- what Add tells: the sum, or 0 -/
def addV (a b : Int) : Int := if -9223372036854775808 ≤ a + b ∧ a + b ≤ 9223372036854775807 then a + b else 0
/-- and how it went -/
def addC (a b : Int) : Int := if -9223372036854775808 ≤ a + b ∧ a + b ≤ 9223372036854775807 then 0 else 11
theorem addV_in {a b : Int} (h : In64 (a + b)) : addV a b = a + b := if_pos h
theorem addV_out {a b : Int} (h : ¬ In64 (a + b)) : addV a b = 0 := if_neg h
theorem addC_in {a b : Int} (h : In64 (a + b)) : addC a b = 0 := if_pos h
theorem addC_out {a b : Int} (h : ¬ In64 (a + b)) : addC a b = 11 := if_neg h

/-- a number below 0 counts from the end -/
def cnt (i n : Int) : Int := if i < 0 then i + n else i
theorem cnt_neg {i n : Int} (h : i < 0) : cnt i n = i + n := if_pos h
theorem cnt_pos {i n : Int} (h : 0 ≤ i) : cnt i n = i := if_neg (by omega)
theorem cnt_in {i n : Int} (h : In64 i) (h0 : 0 ≤ n) (h1 : n ≤ 9223372036854775807) : -9223372036854775808 ≤ cnt i n ∧ cnt i n ≤ 9223372036854775807 := by
  obtain ⟨h1, h2⟩ := h
  unfold cnt; split <;> omega
def nn (n : Int) : Int := if n < 0 then 0 else n
theorem nn_bd (n : Int) (h : n ≤ 9223372036854775807) : 0 ≤ nn n ∧ nn n ≤ 9223372036854775807 := by unfold nn; split <;> omega
/-- where a stretch begins and ends -/
def spF (a b n : Int) : Int := if (if cnt a (nn n) < 0 then 0 else cnt a (nn n)) ≤ (if nn n - 1 < cnt b (nn n) then nn n - 1 else cnt b (nn n)) then (if cnt a (nn n) < 0 then 0 else cnt a (nn n)) else 0
def spT (a b n : Int) : Int := if (if cnt a (nn n) < 0 then 0 else cnt a (nn n)) ≤ (if nn n - 1 < cnt b (nn n) then nn n - 1 else cnt b (nn n)) then (if nn n - 1 < cnt b (nn n) then nn n - 1 else cnt b (nn n)) + 1 else 0
def plV (i n : Int) : Int := if 0 ≤ cnt i (nn n) ∧ cnt i (nn n) < nn n then cnt i (nn n) else 0
def plB (i n : Int) : Bool := decide (0 ≤ cnt i (nn n) ∧ cnt i (nn n) < nn n)

/-! texts as lists of bytes -/
def B (l : List UInt8) : ByteArray := ⟨l.toArray⟩
def L (s : ByteArray) : List UInt8 := s.data.toList
theorem L_B (l : List UInt8) : L (B l) = l := by simp [L, B]
theorem B_L (s : ByteArray) : B (L s) = s := by cases s; simp [L, B]
theorem L_length (s : ByteArray) : (L s).length = s.size := by unfold L; rw [Array.length_toList]; rfl
theorem B_size (l : List UInt8) : (B l).size = l.length := by rw [← L_length, L_B]
theorem B_congr {a b : List UInt8} (h : a = b) : B a = B b := by rw [h]
theorem L_get (s : ByteArray) (k : Nat) (h : k < s.size) : s[k] = (L s).getD k 0 := by
  have h' : k < s.data.toList.length := by rw [Array.length_toList]; exact h
  unfold L
  rw [List.getD_eq_getElem?_getD, List.getElem?_eq_getElem h', Option.getD_some, Array.getElem_toList]
  rfl
/-- the byte at a place, as a number; 0 behind the end -/
def at_ (l : List UInt8) (i : Nat) : Int := ((l.getD i 0).toNat : Int)
theorem at_in (s : ByteArray) (k : Nat) (h : k < s.size) : ((s[k]'h).toNat : Int) = at_ (L s) k := by unfold at_; rw [L_get]
theorem at_out (l : List UInt8) (k : Nat) (h : l.length ≤ k) : at_ l k = 0 := by unfold at_; rw [List.getD_eq_getElem?_getD, List.getElem?_eq_none h]; rfl
theorem at_bd (l : List UInt8) (k : Nat) : 0 ≤ at_ l k ∧ at_ l k ≤ 255 := by
  unfold at_
  have := (l.getD k 0).toNat_lt
  omega

/-- a stretch of a list -/
def slc (l : List UInt8) (f t : Nat) : List UInt8 := (l.drop f).take (t - f)
theorem extract_B (s : ByteArray) (f t : Nat) : s.extract f t = B (slc (L s) f t) := by
  obtain ⟨⟨l⟩⟩ := s
  rw [ByteArray.extract_mk]
  rfl
/-- where a stretch of n places begins and ends, as places -/
def sF (a b : Int) (n : Nat) : Nat := (spF a b n).toNat
def sT (a b : Int) (n : Nat) : Nat := (spT a b n).toNat
theorem sFT (a b : Int) (n : Nat) : sF a b n ≤ sT a b n ∧ sT a b n ≤ n ∧ spF a b n = (sF a b n : Int) ∧ spT a b n = (sT a b n : Int) := by
  have h : nn (n : Int) = n := if_neg (by omega)
  unfold sF sT
  have h1 : 0 ≤ spF a b n ∧ spF a b n ≤ spT a b n ∧ spT a b n ≤ n := by
    unfold spF spT
    rw [h]
    split <;> (repeat' split) <;> omega
  omega
theorem ret2sn {k l : IntKind} {a b c d : Int} (h : a = b) (h' : c = d) : Ending.returned (.tuple #[.int k a, .int l c]) = .returned (.tuple #[.int k b, .int l d]) := by rw [h, h']
/-- Slice -/
def slcL (l : List UInt8) (a b : Int) : List UInt8 := slc l (sF a b l.length) (sT a b l.length)
theorem slcL_eq (s : ByteArray) (a b : Int) : s.extract (sF a b s.size) (sT a b s.size) = B (slcL (L s) a b) := by
  rw [extract_B]; unfold slcL; rw [L_length]
theorem slcL_eq' (s : ByteArray) (a b : Int) : slc (L s) (sF a b s.size) (sT a b s.size) = slcL (L s) a b := by
  unfold slcL; rw [L_length]
theorem slc_length (l : List UInt8) (f t : Nat) (h1 : f ≤ t) (h2 : t ≤ l.length) : (slc l f t).length = t - f := by unfold slc; rw [List.length_take, List.length_drop]; omega
theorem slc_snoc (l : List UInt8) (f t : Nat) (h1 : f ≤ t) (h2 : t < l.length) : slc l f (t + 1) = slc l f t ++ [l.getD t 0] := by
  unfold slc
  have hd : t - f < (l.drop f).length := by rw [List.length_drop]; omega
  rw [show t + 1 - f = (t - f) + 1 by omega, List.take_succ_eq_append_getElem hd]
  congr 2
  rw [List.getElem_drop, List.getD_eq_getElem?_getD, List.getElem?_eq_getElem (by omega : t < l.length), Option.getD_some]
  congr 1
  omega
theorem slc_nil (l : List UInt8) (f : Nat) : slc l f f = [] := by unfold slc; simp
theorem slcL_le (s : ByteArray) (a b : Int) : (slcL (L s) a b).length ≤ s.size := by
  unfold slcL slc
  rw [List.length_take, List.length_drop, L_length]
  omega
/-! bits -/
def bitL (l : List UInt8) (i : Nat) : Int := at_ l (i / 8) / 2 ^ (7 - i % 8) % 2
theorem bitL_01 (l : List UInt8) (i : Nat) : bitL l i = 0 ∨ bitL l i = 1 := by unfold bitL; omega
/-- the bit within its byte -/
def mskN (m : Nat) : Nat := 128 / 2 ^ m
def msk (m : Nat) : Int := (mskN m : Int)
theorem msk_eq (m : Nat) : (128 : Int) / 2 ^ m = msk m := by unfold msk mskN; rw [Int.natCast_ediv, Int.natCast_pow]; rfl
theorem and_fin : ∀ x : Fin 256, ∀ m : Fin 8, (bits BinOp.and IntKind.u8 (x.val : Int) (msk m.val) == 0) = decide ((x.val : Int) / 2 ^ (7 - m.val) % 2 = 0) := by decide +kernel
theorem and_msk (x : Int) (h0 : 0 ≤ x) (h1 : x ≤ 255) (m : Nat) (hm : m < 8) : (bits BinOp.and IntKind.u8 x (msk m) == 0) = decide (x / 2 ^ (7 - m) % 2 = 0) := by
  obtain ⟨n, rfl⟩ := Int.eq_ofNat_of_zero_le h0
  exact and_fin ⟨n, by omega⟩ ⟨m, hm⟩
theorem half_bd (c : Int) (h0 : 0 ≤ c) (h1 : c ≤ 255) (k : Nat) : 0 ≤ c / 2 ^ k ∧ c / 2 ^ k ≤ 255 := by
  have hp : (0 : Int) < 2 ^ k := Int.pow_pos (by decide)
  refine ⟨Int.ediv_nonneg h0 (by omega), ?_⟩
  exact Int.le_trans (Int.ediv_le_self _ h0) h1
theorem half_half (c : Int) (k : Nat) : c / 2 ^ k / 2 = c / 2 ^ (k + 1) := by
  rw [Int.pow_succ, Int.ediv_ediv_of_nonneg (Int.le_of_lt (Int.pow_pos (by decide)))]
theorem half_zero (c : Int) : c / 2 ^ 0 = c := by simp
def byteV (b : UInt8) : Value := .int .u8 b.toNat
def bytesV (l : List UInt8) : List Value := l.map byteV
theorem bytesV_length (l : List UInt8) : (bytesV l).length = l.length := by simp [bytesV]
theorem bytesV_append (l m : List UInt8) : bytesV (l ++ m) = bytesV l ++ bytesV m := by simp [bytesV]
theorem bytesV_one (l : List UInt8) : ∀ u ∈ bytesV l, u.oneCell' = true := by
  intro u hu
  simp only [bytesV, List.mem_map] at hu
  obtain ⟨b, _, rfl⟩ := hu
  rfl
theorem take_snoc (l : List UInt8) (k : Nat) (h : k < l.length) : l.take (k + 1) = l.take k ++ [l.getD k 0] := by
  rw [List.take_succ_eq_append_getElem h, List.getD_eq_getElem?_getD, List.getElem?_eq_getElem h, Option.getD_some]
/-- a number as a byte -/
def ofI (x : Int) : UInt8 := UInt8.ofNat x.toNat
theorem ofI_nat {x : Int} (h0 : 0 ≤ x) (h1 : x ≤ 255) : ((ofI x).toNat : Int) = x := by
  unfold ofI
  rw [UInt8.toNat_ofNat']
  omega
theorem ofI_byte (c : UInt8) : ofI (c.toNat : Int) = c := by
  unfold ofI
  rw [Int.toNat_natCast]
  exact UInt8.ofNat_toNat
theorem ofI_at (l : List UInt8) (k : Nat) : ofI (at_ l k) = l.getD k 0 := ofI_byte _
theorem at_set (l : List UInt8) (k : Nat) (c : UInt8) (h : k < l.length) : at_ (l.set k c) k = (c.toNat : Int) := by
  unfold at_
  rw [List.getD_eq_getElem?_getD, List.getElem?_set, if_pos rfl, if_pos h]
  rfl
/-- a list with another one laid over it -/
def spl (l : List UInt8) (o : Nat) (m : List UInt8) : List UInt8 := l.take o ++ m ++ l.drop (o + m.length)
theorem spl_length (l m : List UInt8) (o : Nat) (h : o + m.length ≤ l.length) : (spl l o m).length = l.length := by
  unfold spl
  simp only [List.length_append, List.length_take, List.length_drop]
  omega
theorem spl_getD (l m : List UInt8) (o i : Nat) (h : o + m.length ≤ l.length) : (spl l o m).getD i 0 = if o ≤ i ∧ i < o + m.length then m.getD (i - o) 0 else l.getD i 0 := by
  unfold spl
  simp only [List.getD_eq_getElem?_getD, List.append_assoc, List.getElem?_append, List.length_take, List.getElem?_take, List.getElem?_drop]
  have e : min o l.length = o := by omega
  rw [e]
  by_cases h1 : i < o
  · rw [if_pos h1, if_pos h1, if_neg (by omega)]
  · rw [if_neg h1]
    by_cases h2 : i < o + m.length
    · rw [if_pos (by omega), if_pos (by omega)]
    · rw [if_neg (by omega), if_neg (by omega)]
      congr 2
      omega
theorem list_ext0 {l m : List UInt8} (h : l.length = m.length) (hg : ∀ i, i < l.length → l.getD i 0 = m.getD i 0) : l = m := by
  apply List.ext_getElem h
  intro i h1 h2
  have := hg i h1
  simpa [List.getD_eq_getElem?_getD, List.getElem?_eq_getElem h1, List.getElem?_eq_getElem h2] using this
/-- a text, filled with bytes 0 to at least so many -/
def filL (l : List UInt8) (n : Nat) : List UInt8 := l ++ List.replicate (n - l.length) 0
theorem filL_length (l : List UInt8) (n : Nat) : (filL l n).length = max l.length n := by unfold filL; simp; omega
theorem filL_getD (l : List UInt8) (n i : Nat) : (filL l n).getD i 0 = l.getD i 0 := by
  unfold filL
  simp only [List.getD_eq_getElem?_getD, List.getElem?_append, List.getElem?_replicate]
  by_cases h : i < l.length
  · rw [if_pos h]
  · rw [if_neg h, List.getElem?_eq_none (by omega)]
    split <;> rfl
theorem fil_spl (l : List UInt8) (m n : Nat) (h : l.length ≤ m) (hm : m = max l.length n) : spl (List.replicate m 0) 0 l = filL l n := by
  apply list_ext0
  · rw [spl_length _ _ _ (by simp; omega), filL_length]
    simp [hm]
  · intro i _
    rw [spl_getD _ _ _ _ (by simp; omega), filL_getD]
    split
    · rw [Nat.sub_zero]
    · rename_i hc
      simp only [List.getD_eq_getElem?_getD, List.getElem?_replicate]
      rw [List.getElem?_eq_none (by omega : l.length ≤ i)]
      split <;> rfl
end Go.Proofs.YtakldjdohgmeiaaDoor.Pl

namespace Go.Proofs.YtakldjdohgmeiaaDoor
open Go.RowKit
set_option maxRecDepth 20000

theorem Tryd.info_u8 : (Tryd.prog.info? 5).map (fun i => (i.zero, i.size, i.bytes)) = some (some (.int .u8 0), 1, 1) := by kernel_rfl

namespace Mm
open Pl

theorem below_drewN {B : Nat} (w : World) (n : Nat) : Below B w (w.drewN n) := ⟨rfl, rfl, rfl, Nat.le_refl _, fun _ _ => rfl⟩

/-- an owned row of bytes -/
def OwnB (w : World) (base : Nat) (v : Value) (l : List UInt8) : Prop := w.ownsRow base 5 1 v l.length (bytesV l)

theorem run_str (w : World) (base : Nat) (v : Value) (l : List UInt8) (h : OwnB w base v l) :
    (convert 24 9 v).run Tryd.prog w = .ok (.string (B l)) w := by
  rcases h.2 with ⟨rfl, h0⟩ | ⟨g, cap, cur, rfl, _, hg, _, _, _, htake⟩
  · rw [run_convert_bytes_nil w 24 5 Tryd.underlying24 Tryd.underlying5 0 0 9 Tryd.underlying9]
    rw [List.eq_nil_of_length_eq_zero h0]
    rfl
  · refine run_convert_bytes_back w 24 9 5 ⟨g, 0, none⟩ cap l Tryd.underlying24 Tryd.underlying5 Tryd.underlying9 ?_
    intro j hj
    refine h.cells (g := g) rfl j _ ?_
    simp [bytesV, byteV, List.getElem?_eq_getElem hj]

theorem wp_str {ops : Array Oper} {rest : List Oper} {o : Oper} {a : Act} {Q : Exit → Act → World → Prop} (w : World) (hgd : o.guard = none) (x : Operand) (ho : o.op = .convert 24 9 x)
    (base : Nat) (v : Value) (l : List UInt8) (hx : a.eval x = v) (h : OwnB w base v l) (hK : wpList Tryd.prog ops Q rest (a.put o.dst (.string (B l))) w) : wpList Tryd.prog ops Q (o :: rest) a w := by
  refine wpList_plain hgd fun K hK' => ?_
  have hrun := run_str w base v l h
  unfold Oper.wp
  simp [execOp, ho, hx, hrun, Result.andThen]
  exact hK' _ _ hK

/-- 'make([]byte, 0, n)' -/
theorem wp_make0 {ops : Array Oper} {rest : List Oper} {o : Oper} {a : Act} {Q : Exit → Act → World → Prop} (w : World) (hgd : o.guard = none) (x y : Operand) (ho : o.op = .makeSlice 24 x y)
    (C : Int) (hx : a.eval x = .int .i64 0) (hy : a.eval y = .int .i64 C) (h0 : 0 ≤ C) (h1 : C ≤ 281474976710656)
    (hK : ∀ v w', OwnB w' w.heap.size v [] → Below w.heap.size w w' → wpList Tryd.prog ops Q rest (a.put o.dst v) w') : wpList Tryd.prog ops Q (o :: rest) a w := by
  obtain ⟨i0, hi, hz0, hz1, hz2⟩ := info_parts Tryd.info_u8
  obtain ⟨n, rfl⟩ := Int.eq_ofNat_of_zero_le h0
  refine wpList_make_own w hgd x y 24 ho w.heap.size 5 i0 (.int .u8 0) 1 Tryd.underlying24 hi hz0 hz1 .i64 .i64 _ n hx hy rfl (by rw [hz2]; omega) (by unfold maxLen; omega) (Nat.le_refl _) ?_
  intro w' h1 h2
  exact hK _ _ h1 ((Below.refl _ _).grown h2 (Nat.le_refl _) (fun k hk => by cases hk))

/-- 'append(out, c)': the byte lies in the block that the walk has just laid -/
theorem wp_app1 {ops : Array Oper} {rest : List Oper} {o : Oper} {a : Act} {Q : Exit → Act → World → Prop} (w : World) (hgd : o.guard = none) (x y : Operand)
    (ho : o.op = .call { callee := .builtin .append, args := #[x, y], argTypes := #[24, 24] })
    (base : Nat) (v : Value) (l : List UInt8) (c : UInt8) (hx : a.eval x = v) (hy : a.eval y = .slice (some ⟨w.heap.size, 0, none⟩) 1 1) (h : OwnB w base v l) (hl : l.length < 140737488355328) (hbase : base ≤ w.heap.size)
    (hK : ∀ v' w', OwnB w' base v' (l ++ [c]) → Below base w w' → wpList Tryd.prog ops Q rest (a.put o.dst v') w') :
    wpList Tryd.prog ops Q (o :: rest) a (w.alloc (.cells #[.int .u8 c.toNat] 5)) := by
  obtain ⟨i0, hi, hz0, hz1, hz2⟩ := info_parts Tryd.info_u8
  refine wpList_append_own _ hgd x y 24 ho base 5 i0 (.int .u8 0) 1 1 Tryd.underlying24 hi hz0 hz1 hz2 rfl (by decide) v l.length (bytesV l) hx (h.alloc _) ⟨w.heap.size, 0, none⟩ 1 1 [byteV c] hy rfl ?_ ?_ ?_ ?_ ?_ ?_
  · intro j u hj
    match j, hj with
    | 0, hj =>
      simp at hj
      subst hj
      simp [Addr.add, byteV]
  · intro u hu
    simp at hu
    subst hu
    rfl
  · unfold maxLen; omega
  · omega
  · simp; omega
  · intro v' w' h1 h2 _
    refine hK v' w' (by unfold OwnB; rw [bytesV_append, List.length_append]; exact h1) (((Below.refl _ _).alloc hbase _).grown h2 (by simp; omega) (fun k hk => (h.lt k hk).1))
/-- 'append(out, c)', the byte as a number -/
theorem wp_appI {ops : Array Oper} {rest : List Oper} {o : Oper} {a : Act} {Q : Exit → Act → World → Prop} (w : World) (hgd : o.guard = none) (x y : Operand)
    (ho : o.op = .call { callee := .builtin .append, args := #[x, y], argTypes := #[24, 24] })
    (base : Nat) (v : Value) (l : List UInt8) (c : Int) (hx : a.eval x = v) (hy : a.eval y = .slice (some ⟨w.heap.size, 0, none⟩) 1 1) (h : OwnB w base v l) (hc0 : 0 ≤ c) (hc1 : c ≤ 255) (hl : l.length < 140737488355328) (hbase : base ≤ w.heap.size)
    (hK : ∀ v' w', OwnB w' base v' (l ++ [ofI c]) → Below base w w' → wpList Tryd.prog ops Q rest (a.put o.dst v') w') :
    wpList Tryd.prog ops Q (o :: rest) a (w.alloc (.cells #[.int .u8 c] 5)) := by
  have := ofI_nat hc0 hc1
  rw [← this]
  exact wp_app1 w hgd x y ho base v l (ofI c) hx hy h hl hbase hK

/-- '[]byte(s)': new memory that holds the text's bytes -/
theorem wp_tobytes {ops : Array Oper} {rest : List Oper} {o : Oper} {a : Act} {Q : Exit → Act → World → Prop} (w : World) (hgd : o.guard = none) (x : Operand) (ho : o.op = .convert 9 24 x)
    (s : ByteArray) (hx : a.eval x = .string s)
    (hK : ∀ c w', s.size ≤ c → w'.heap.size = w.heap.size + 1 → (∀ j, j < s.size → w'.cell? ⟨w.heap.size, j, none⟩ = some (.int .u8 (at_ (L s) j))) → (∀ j, j < s.size → w'.frozen? ⟨w.heap.size, j, none⟩ = false) → Below w.heap.size w w' →
      wpList Tryd.prog ops Q rest (a.put o.dst (.slice (some ⟨w.heap.size, 0, none⟩) s.size c)) w') : wpList Tryd.prog ops Q (o :: rest) a w := by
  refine wpList_plain hgd fun K hK' => ?_
  have hrun := run_bytes_of_string (P := Tryd.prog) w 9 24 5 s Tryd.underlying9 Tryd.underlying24 Tryd.underlying5
  unfold Oper.wp
  simp [execOp, ho, hx, hrun, Result.andThen]
  refine hK' _ _ (hK _ _ (grownCap_ge _ _ _ _) (by simp) ?_ ?_ (((Below.refl _ _).drew).alloc (by simp) _))
  · intro j hj
    have hj' : j < s.data.size := hj
    rw [show w.heap.size = w.drew.heap.size from rfl, World.cell?_alloc_mark, bytesRow_at s _ j hj']
    congr 1
    unfold at_
    have := L_get s j hj
    congr 2
    rw [← this]
    rfl
  · intro j hj
    rw [show w.heap.size = w.drew.heap.size from rfl, World.frozen?_alloc_mark]
    have : (bytesRow s (grownCap w s.size 0 5)).size = grownCap w s.size 0 5 := by
      have h1 : s.data.size = s.size := rfl
      have h2 := grownCap_ge w s.size 0 5
      unfold bytesRow
      rw [Array.size_append, Array.size_map, Array.size_replicate, h1]
      omega
    rw [this]
    have h2 := grownCap_ge w s.size 0 5
    simp
    omega
/-- block g is just these bytes -/
def BlkB (w : World) (g : Nat) (l : List UInt8) : Prop := w.heap[g]? = some (.cells (bytesV l).toArray 5 (0, 0))
theorem BlkB.lt {w : World} {g : Nat} {l : List UInt8} (h : BlkB w g l) : g < w.heap.size := (Array.getElem?_eq_some_iff.1 h).1
theorem BlkB.cell {w : World} {g : Nat} {l : List UInt8} (h : BlkB w g l) (i : Nat) (hi : i < l.length) : w.cell? ⟨g, i, none⟩ = some (.int .u8 (at_ l i)) := by
  rw [cell_of_row w g i _ _ _ h]
  simp [bytesV, byteV, at_, List.getElem?_eq_getElem hi, List.getD_eq_getElem?_getD]
theorem BlkB.frozen {w : World} {g : Nat} {l : List UInt8} (h : BlkB w g l) (i : Nat) : w.frozen? ⟨g, i, none⟩ = false := by
  unfold BlkB at h
  simp [World.frozen?, h]
theorem BlkB.own {w : World} {g base : Nat} {l : List UInt8} (h : BlkB w g l) (hb : base ≤ g) (hl : l.length ≤ maxLen) : OwnB w base (.slice (some ⟨g, 0, none⟩) l.length l.length) l :=
  ⟨by simp [bytesV], .inr ⟨g, l.length, _, rfl, hb, h, Nat.le_refl _, hl, by simp [bytesV], by rw [Nat.mul_one, ← bytesV_length l]; simp⟩⟩

/-- 'make([]byte, n)' -/
theorem wp_makeN {ops : Array Oper} {rest : List Oper} {o : Oper} {a : Act} {Q : Exit → Act → World → Prop} (w : World) (hgd : o.guard = none) (x y : Operand) (ho : o.op = .makeSlice 24 x y)
    (C : Int) (hx : a.eval x = .int .i64 C) (hy : a.eval y = .int .i64 C) (h0 : 0 ≤ C) (h1 : C ≤ 281474976710656)
    (hK : ∀ w', BlkB w' w.heap.size (List.replicate C.toNat 0) → w'.heap.size = w.heap.size + 1 → Below w.heap.size w w' → wpList Tryd.prog ops Q rest (a.put o.dst (.slice (some ⟨w.heap.size, 0, none⟩) C.toNat C.toNat)) w') : wpList Tryd.prog ops Q (o :: rest) a w := by
  obtain ⟨i0, hi, hz0, hz1, hz2⟩ := info_parts Tryd.info_u8
  refine wpList_plain hgd fun K hK' => ?_
  have hrun := run_make (P := Tryd.prog) w 24 5 i0 (.int .u8 0) Tryd.underlying24 hi hz0 .i64 .i64 C C h0 (Int.le_refl _) (by rw [hz2]; omega) (by omega)
  unfold Oper.wp
  simp [execOp, ho, hx, hy, hrun, Result.andThen]
  refine hK' _ _ (hK _ ?_ (by simp) ((Below.refl _ _).alloc (Nat.le_refl _) _))
  unfold BlkB
  rw [heap_alloc_new]
  congr 2
  rw [hz1, Nat.mul_one]
  apply Array.ext
  · simp [madeCells, bytesV]
  · intro i h2 h3
    simp [madeCells, bytesV, byteV, Value.cells]
    rw [Nat.mod_one]
    rfl

/-- 'copy(b[o:], s)', s a text -/
theorem wp_copystr {ops : Array Oper} {rest : List Oper} {op : Oper} {a : Act} {Q : Exit → Act → World → Prop} (w : World) (hgd : op.guard = none) (x y : Operand)
    (ho : op.op = .call { callee := .builtin .copy, args := #[x, y], argTypes := #[24, 9] }) (g o dl dc : Nat) (l : List UInt8) (s : ByteArray) (h : BlkB w g l)
    (hx : a.eval x = .slice (some ⟨g, o, none⟩) dl dc) (hy : a.eval y = .string s) (hfit : s.size ≤ dl) (hin : o + s.size ≤ l.length)
    (hK : ∀ w', BlkB w' g (spl l o (L s)) → w'.heap.size = w.heap.size → (∀ B, B ≤ g → Below B w w') → wpList Tryd.prog ops Q rest (a.put op.dst (goInt s.size)) w') : wpList Tryd.prog ops Q (op :: rest) a w := by
  obtain ⟨i0, hi, hz0, hz1, hz2⟩ := info_parts Tryd.info_u8
  have hn : Nat.min s.size dl = s.size := Nat.min_eq_left hfit
  have hst := run_storeCells_at Tryd.prog g o 5 (bytesV (L s)) 0 _ w h (by simp [bytesV, L_length]; omega) (bytesV_one _)
  have hmap : List.take s.size (List.map (fun b => Value.int .u8 (b.toNat : Int)) s.data.toList) = bytesV (L s) := by
    rw [List.take_of_length_le (by rw [List.length_map, Array.length_toList]; exact Nat.le_refl _)]
    rfl
  have hrun : (Builtin.copy_ #[24, 9] op.type #[.slice (some ⟨g, o, none⟩) dl dc, .string s]).run Tryd.prog w =
      .ok (goInt s.size) (w.setRow g ((bytesV l).take o ++ bytesV (L s) ++ (bytesV l).drop (o + (bytesV (L s)).length)).toArray) := by
    simp only [Nat.add_zero] at hst
    simp [Builtin.copy_, run_underlying Tryd.underlying24, sizeOf, typeInfo, hi, Builtin.lenOf, hn, Builtin.firstCells]
    rw [hmap, hst]
    simp
  refine wpList_plain hgd fun K hK' => ?_
  unfold Oper.wp execOp
  simp only [ho, resolve, invoke, builtin, Sem.run_bind, Sem.run_pure, Result.andThen_ok, List.map_toArray, List.map_cons, List.map_nil, hx, hy, hrun]
  refine hK' _ _ (hK _ ?_ (by simp [World.setRow]) (fun B hB => ⟨rfl, rfl, rfl, by simp [World.setRow], fun k hk => setRow_other w g k _ (by omega)⟩))
  unfold BlkB
  rw [setRow_heap w g _ _ _ _ h]
  simp [spl, bytesV]

/-- 'string(b)', b a whole block -/
theorem wp_strN {ops : Array Oper} {rest : List Oper} {o : Oper} {a : Act} {Q : Exit → Act → World → Prop} (w : World) (hgd : o.guard = none) (x : Operand) (ho : o.op = .convert 24 9 x)
    (g n c : Nat) (l : List UInt8) (h : BlkB w g l) (hx : a.eval x = .slice (some ⟨g, 0, none⟩) n c) (hn : l.length = n) (hK : wpList Tryd.prog ops Q rest (a.put o.dst (.string (B l))) w) : wpList Tryd.prog ops Q (o :: rest) a w := by
  subst hn
  refine wpList_plain hgd fun K hK' => ?_
  have hrun := run_convert_bytes_back w 24 9 5 ⟨g, 0, none⟩ c l Tryd.underlying24 Tryd.underlying5 Tryd.underlying9 (fun j hj => by
    have e : (⟨g, 0, none⟩ : Addr).add j = ⟨g, j, none⟩ := by unfold Addr.add; split <;> simp_all
    rw [e, h.cell j hj]
    simp [at_, List.getD_eq_getElem?_getD, List.getElem?_eq_getElem hj])
  unfold Oper.wp
  simp [execOp, ho, hx, hrun, Result.andThen]
  exact hK' _ _ hK

/-- 'b[i] = c' -/
theorem wp_storeB {ops : Array Oper} {rest : List Oper} {o : Oper} {a : Act} {Q : Exit → Act → World → Prop} (w : World) (hgd : o.guard = none) (x y : Operand) (ho : o.op = .store 5 x y)
    (g i : Nat) (l : List UInt8) (c : Int) (h : BlkB w g l) (hx : a.eval x = .pointer (some ⟨g, i, none⟩)) (hy : a.eval y = .int .u8 c) (h0 : 0 ≤ c) (h1 : c ≤ 255) (hi : i < l.length)
    (hK : ∀ w', BlkB w' g (l.set i (ofI c)) → w'.heap.size = w.heap.size → (∀ B, B ≤ g → Below B w w') → wpList Tryd.prog ops Q rest (a.put o.dst undef) w') : wpList Tryd.prog ops Q (o :: rest) a w := by
  refine wpList_plain hgd fun K hK' => ?_
  obtain ⟨i0, hi0, hz0, hz1, hz2⟩ := info_parts Tryd.info_u8
  have hst := run_storeCells_at Tryd.prog g i 5 [Value.int .u8 c] 0 _ w h (by simp [bytesV]; omega) (by intro v hv; simp at hv; subst hv; rfl)
  have hrun : (Instr.storeAt 5 (.pointer (some ⟨g, i, none⟩)) (.int .u8 c)).run Tryd.prog w =
      .ok () (w.setRow g ((bytesV l).take i ++ [Value.int .u8 c] ++ (bytesV l).drop (i + 1)).toArray) := by
    simp only [Nat.add_zero] at hst
    simp [Instr.storeAt, Instr.sureAddr, storeVar, sizeOf, typeInfo, hi0, hz1, Value.cells]
    rw [hst]
    simp
  unfold Oper.wp execOp
  simp only [ho, hx, hy, Sem.run_bind, Sem.run_pure, Result.andThen_ok, hrun]
  refine hK' _ _ (hK _ ?_ (by simp [World.setRow]) (fun B hB => ⟨rfl, rfl, rfl, by simp [World.setRow], fun k hk => setRow_other w g k _ (by omega)⟩))
  unfold BlkB
  rw [setRow_heap w g _ _ _ _ h]
  have hb : byteV (ofI c) = .int .u8 c := by
    unfold byteV
    rw [ofI_nat h0 h1]
  congr 3
  rw [List.set_eq_take_append_cons_drop]
  simp [bytesV, hi, hb]
end Mm
end Go.Proofs.YtakldjdohgmeiaaDoor

namespace Go.Proofs.YtakldjdohgmeiaaDoor
open Go.RowKit
set_option maxRecDepth 20000

namespace Pl
/-- neither CR nor LF -/
def isEnd (c : UInt8) : Bool := c == 13 || c == 10
def noEnd (l : List UInt8) : Bool := l.all fun c => !isEnd c
theorem enc_hi (r : Int) (h : 128 ≤ r) : ∃ a b : UInt8, ∃ t : List UInt8, (Utf8.encode r).data.toList = a :: b :: t ∧ (t = [] → 128 ≤ b.toNat) ∧ t.length ≤ 2 := by
  unfold Utf8.encode
  obtain ⟨c, hc⟩ : ∃ c, c = (if Utf8.valid r then r.toNat else Utf8.runeError) := ⟨_, rfl⟩
  have h0 : 128 ≤ c := by rw [hc]; split <;> (try simp only [Utf8.runeError]) <;> omega
  simp only [← hc]
  rw [if_neg (by omega)]
  by_cases h1 : c < 0x800
  · rw [if_pos h1]
    refine ⟨_, _, [], rfl, fun _ => ?_, by simp⟩
    rw [UInt8.toNat_ofNat']
    omega
  · rw [if_neg h1]
    by_cases h2 : c < 0x10000
    · rw [if_pos h2]
      exact ⟨_, _, [_], rfl, fun e => by simp at e, by simp⟩
    · rw [if_neg h2]
      exact ⟨_, _, [_, _], rfl, fun e => by simp at e, by simp⟩
end Pl
/-- 'string(r)', r a rune -/
theorem Mm.wp_runestr {ops : Array Oper} {rest : List Oper} {o : Oper} {a : Act} {Q : Exit → Act → World → Prop} (w : World) (hgd : o.guard = none) (x : Operand) (ho : o.op = .convert 21 9 x)
    (r : Int) (E : ByteArray) (hE : E = Utf8.encode r) (hx : a.eval x = .int .i32 r) (hK : wpList Tryd.prog ops Q rest (a.put o.dst (.string E)) w) : wpList Tryd.prog ops Q (o :: rest) a w := by
  refine wpList_plain hgd fun K hK' => ?_
  have hrun : (convert 21 9 (.int .i32 r)).run Tryd.prog w = .ok (.string E) w := by
    rw [hE]
    simp [convert, Conv.intToString]
  unfold Oper.wp
  simp [execOp, ho, hx, hrun, Result.andThen]
  exact hK' _ _ hK

theorem indexByte_none (c : Int) (w : World) : Calls Tryd.prog 64 #[.string ByteArray.empty, .int .u8 c] w fun e w' => e = .returned (.int .i64 (-1)) ∧ w' = w := Tryd.strings_IndexByte _ _ _
set_option maxHeartbeats 4000000 in
theorem indexRune_hi (r : Int) (h0 : 128 ≤ r) (w : World) :
    Calls Tryd.prog 91 #[.string ⟨#[13, 10]⟩, .int .i32 r] w fun e w' => e = .returned (.int .i64 (-1)) ∧ Below w.heap.size w w' := by
  obtain ⟨a, b, t, hE, hb, ht⟩ := Pl.enc_hi r h0
  obtain ⟨E, hEE⟩ : ∃ E, E = Utf8.encode r := ⟨_, rfl⟩
  rw [← hEE] at hE
  have hn : ¬ r < 128 := by omega
  have hz : (0 : Int) ≤ r := by omega
  go_enter Tryd.func91, Tryd.ntmps91
  by_cases he : r = 65533
  · subst he
    clear hn
    go_wp2_with fail
    go_loopg [5, 6] 2 (fun g _ _ wx => ∃ i : Nat, i + g = 2 ∧ wx = w.iter ⟨#[13, 10]⟩ i)
    case atStart => exact ⟨0, by omega, rfl⟩
    case round =>
      obtain ⟨i, hig, rfl⟩ := hrel
      have hs2 : (⟨#[13, 10]⟩ : ByteArray).size = 2 := rfl
      cases gk with
      | zero =>
        obtain rfl : i = 2 := by omega
        have hnx := run_next_end (P := Tryd.prog) w ⟨#[13, 10]⟩ 2
        go_wp2
        go_ret
        exact ⟨rfl, (Below.refl _ _).alloc (Nat.le_refl _) _⟩
      | succ g =>
        rcases (show i = 0 ∨ i = 1 by omega) with rfl | rfl
        · have hnx := fun ty => run_next_ascii (P := Tryd.prog) w ⟨#[13, 10]⟩ 0 ty (by decide) (by decide)
          go_wp2
          go_roundg g
          case measure => omega
          case rel => exact ⟨_, by omega, rfl⟩
        · have hnx := fun ty => run_next_ascii (P := Tryd.prog) w ⟨#[13, 10]⟩ 1 ty (by decide) (by decide)
          go_wp2
          go_roundg g
          case measure => omega
          case rel => exact ⟨_, by omega, rfl⟩
  · have heb : (r == 65533) = false := beq_eq_false_iff_ne.2 he
    cases hv : Lib.validRune r
    · go_wp2_with (go_at_call 117; refine (Tryd.utf8_ValidRune r w).mono ?_; rintro e w' ⟨rfl, rfl⟩; rw [hv])
      go_ret
      exact ⟨rfl, Below.refl _ _⟩
    · go_wp2_with (go_at_call 117; refine (Tryd.utf8_ValidRune r w).mono ?_; rintro e w' ⟨rfl, rfl⟩; rw [hv])
      have HEE := Pl.hid hEE
      clear hEE
      have hsz : E.size = t.length + 2 := by
        have h1 : E.size = E.data.toList.length := by rw [Array.length_toList]; rfl
        rw [h1, hE]
        rfl
      have HT := Pl.hid hb
      clear hb
      go_step3
      go_wp2_with (refine Mm.wp_runestr _ rfl _ (by rfl) r E HEE.out (by rfl) ?_)
      go_loop [9] (fun iv => iv = .int .i64 ((t.length : Int) + 2 - 1)) (fun _ => 0)
      case atStart => rfl
      case round =>
        subst hrel
        have h13 : (⟨#[13, 10]⟩ : ByteArray).size = 2 := rfl
        cases t with
        | nil =>
          have hb' : 128 ≤ b.toNat := HT.out rfl
          have hE1 : ∀ h : 1 < E.size, E[1]'h = b := fun h => by
            rw [Pl.L_get E 1 h]
            unfold Pl.L
            rw [hE]
            rfl
          have hne : ((10 : Int) == (b.toNat : Int)) = false := beq_eq_false_iff_ne.2 (by omega)
          clear HT
          have hsz : E.size = 2 := hsz
          have h2 : (1 : Int) < 2 := by decide
          have hi1 : (1 : Nat) < E.size := by omega
          have hi2 : (1 : Nat) < (⟨#[13, 10]⟩ : ByteArray).size := by decide
          go_wp2_with fail
          go_step3
          go_wp2_with fail
          go_quiet (fail)
          have hg1 : (((⟨#[13, 10]⟩ : ByteArray)[1]'hi2).toNat : Int) = 10 := rfl
          have hne' : ((10 : Int) != (b.toNat : Int)) = true := bne_iff_ne.2 (by omega)
          simp only [hg1, hne'] 
          have h23 : (2 : Int) ≤ 2 := by decide
          go_wp2_with fail
          have hwr : IntKind.i64.wrap 2 = 2 := by decide
          go_quiet (first | rw [hwr] | (go_at_call 64; exact (indexByte_none _ _).mono fun e w2 h => ⟨h.1, _, h.2⟩))
          go_wp2_with fail
          simp +zetaDelta only [Exit.inBlock, Exit.then, Exit.noGoto_ret]
          go_ret
          exact ⟨rfl, Mm.below_drewN _ _⟩
        | cons c t =>
          simp only [List.length_cons] at hsz ht
          have hge : ¬ (((t.length + 1 : Nat) : Int) + 2 - 1 < 2) := by omega
          go_wp2_with fail
          go_ret
          exact ⟨rfl, Below.refl _ _⟩

namespace Pl
theorem idx2 (x : UInt8) : (isEnd x = true ∧ 0 ≤ Lib.indexByte [13, 10] x) ∨ (isEnd x = false ∧ Lib.indexByte [13, 10] x = -1) := by
  unfold isEnd
  by_cases h : x = 13
  · subst h; exact .inl ⟨rfl, by decide⟩
  · by_cases h' : x = 10
    · subst h'; exact .inl ⟨rfl, by decide⟩
    · refine .inr ⟨by simp [h, h'], ?_⟩
      have e1 : ((13 : UInt8) == x) = false := beq_eq_false_iff_ne.2 (fun e => h e.symm)
      have e2 : ((10 : UInt8) == x) = false := beq_eq_false_iff_ne.2 (fun e => h' e.symm)
      simp [Lib.indexByte, e1, e2]
theorem con2 (x : UInt8) : ([13, 10] : List UInt8).contains x = isEnd x := by
  unfold isEnd
  simp
  rfl
theorem any2 (l : List UInt8) : (noEnd l = true ∧ Lib.indexAny l [13, 10] = -1) ∨ (noEnd l = false ∧ 0 ≤ Lib.indexAny l [13, 10]) := by
  induction l with
  | nil => exact .inl ⟨rfl, rfl⟩
  | cons b l ih =>
    unfold noEnd at ih ⊢
    rw [List.all_cons, Lib.indexAny, con2]
    cases hb : isEnd b
    · rcases ih with ⟨h1, h2⟩ | ⟨h1, h2⟩
      · exact .inl ⟨by simp [h1], by simp [h2]⟩
      · refine .inr ⟨by simp [h1], ?_⟩
        have : (Lib.indexAny l [13, 10] == -1) = false := beq_eq_false_iff_ne.2 (by omega)
        simp [this]
        omega
    · exact .inr ⟨by simp, by simp⟩
theorem dec_span (s : ByteArray) (i : Nat) (h : i < s.size) (hh : 128 ≤ (s[i]'h).toNat) : i + (Utf8.decode s i).2 ≤ s.size ∧ ∀ j, i ≤ j → j < i + (Utf8.decode s i).2 → 128 ≤ (s.get! j).toNat := by
  have hg : s.get! i = s[i]'h := get_at s i h
  have hn : ¬ (s.get! (i + 0)).toNat < 128 := by rw [get_at s i h]; omega
  have e0 : 128 ≤ (s.get! i).toNat := by rw [hg]; exact hh
  have one : i + 1 ≤ s.size ∧ ∀ j, i ≤ j → j < i + 1 → 128 ≤ (s.get! j).toNat := ⟨by omega, fun j h1 h2 => by rw [show j = i by omega]; exact e0⟩
  have two : ∀ k, (i + k < s.size && (s.get! (i + k)).toNat / 64 == 2) = true → i + k < s.size ∧ 128 ≤ (s.get! (i + k)).toNat := fun k hk => by
    rw [Bool.and_eq_true, decide_eq_true_eq, beq_iff_eq] at hk
    exact ⟨hk.1, by omega⟩
  simp only [Utf8.decode, hn, if_false]
  split
  · rename_i hc
    rw [Bool.and_eq_true] at hc
    obtain ⟨a1, b1⟩ := two 1 hc.2
    split
    · refine ⟨by simp; omega, fun j h1 h2 => ?_⟩
      simp only at h2
      rcases (show j = i ∨ j = i + 1 by omega) with rfl | rfl
      · exact e0
      · exact b1
    · exact one
  · split
    · rename_i hc
      rw [Bool.and_eq_true, Bool.and_eq_true] at hc
      obtain ⟨a1, b1⟩ := two 1 hc.1.2
      obtain ⟨a2, b2⟩ := two 2 hc.2
      split
      · refine ⟨by simp; omega, fun j h1 h2 => ?_⟩
        simp only at h2
        rcases (show j = i ∨ j = i + 1 ∨ j = i + 2 by omega) with rfl | rfl | rfl
        · exact e0
        · exact b1
        · exact b2
      · exact one
    · split
      · rename_i hc
        rw [Bool.and_eq_true, Bool.and_eq_true, Bool.and_eq_true] at hc
        obtain ⟨a1, b1⟩ := two 1 hc.1.1.2
        obtain ⟨a2, b2⟩ := two 2 hc.1.2
        obtain ⟨a3, b3⟩ := two 3 hc.2
        split
        · refine ⟨by simp; omega, fun j h1 h2 => ?_⟩
          simp only at h2
          rcases (show j = i ∨ j = i + 1 ∨ j = i + 2 ∨ j = i + 3 by omega) with rfl | rfl | rfl | rfl
          · exact e0
          · exact b1
          · exact b2
          · exact b3
        · exact one
      · exact one
theorem get_bang (s : ByteArray) (j : Nat) (h : j < s.size) : s.get! j = (L s).getD j 0 := by
  rw [← L_get s j h]
  exact get_at s j h
/-- none of the first i bytes is CR or LF -/
def noE (l : List UInt8) (i : Nat) : Prop := ∀ j, j < i → isEnd (l.getD j 0) = false
theorem noE_all {l : List UInt8} {i : Nat} (h : noE l i) (hi : l.length ≤ i) : noEnd l = true := by
  unfold noEnd
  rw [List.all_eq_true]
  intro x hx
  obtain ⟨j, hj, rfl⟩ := List.getElem_of_mem hx
  have := h j (by omega)
  rw [List.getD_eq_getElem?_getD, List.getElem?_eq_getElem hj, Option.getD_some] at this
  rw [this]
  rfl
theorem noE_not {l : List UInt8} {i : Nat} (hi : i < l.length) (h : isEnd (l.getD i 0) = true) : noEnd l = false := by
  unfold noEnd
  rw [List.all_eq_false]
  refine ⟨l[i], List.getElem_mem hi, ?_⟩
  rw [List.getD_eq_getElem?_getD, List.getElem?_eq_getElem hi, Option.getD_some] at h
  rw [h]
  simp
theorem hi_isEnd (x : UInt8) (h : 128 ≤ x.toNat) : isEnd x = false := by
  unfold isEnd
  have h1 : x ≠ 13 := fun e => by subst e; exact absurd h (by decide)
  have h2 : x ≠ 10 := fun e => by subst e; exact absurd h (by decide)
  simp [h1, h2]
end Pl
theorem Mm.below_iterAt {B : Nat} {a w : World} (h : Below B a w) {k : Nat} (hk : B ≤ k) (s : ByteArray) (p : Nat) : Below B a (w.iterAt k s p) :=
  ⟨h.os, h.tape, h.output, by simp [World.iterAt]; exact h.size, fun g hg => by
    refine Eq.trans ?_ (h.block g hg)
    simp [World.iterAt, Array.getElem?_setIfInBounds]
    omega⟩

theorem indexRune_lo (x : UInt8) (h : x.toNat < 128) (w : World) : Calls Tryd.prog 91 #[.string ⟨#[13, 10]⟩, .int .i32 x.toNat] w fun e w' => e = .returned (.int .i64 (Lib.indexByte [13, 10] x)) ∧ w' = w := by
  refine (Tryd.strings_IndexRune_ascii ⟨#[13, 10]⟩ x.toNat w (by omega) (by omega)).mono ?_
  rintro e w' ⟨rfl, rfl⟩
  simp
theorem should_walk (n : Int) (w : World) : Calls Tryd.prog 92 #[.int .i64 n] w fun e w' => e = .returned (.bool (decide (8 < n))) ∧ w = w' := by
  go_enter Tryd.func92, Tryd.ntmps92
  go_wp2
  go_ret
  exact ⟨rfl, rfl⟩
set_option maxHeartbeats 4000000 in
theorem indexAny_short (s : ByteArray) (h8 : s.size ≤ 8) (w : World) :
    Calls Tryd.prog 76 #[.string s, .string ⟨#[13, 10]⟩] w fun e w' => (∃ n : Int, e = .returned (.int .i64 n) ∧ ((Pl.noEnd (Pl.L s) = true ∧ n = -1) ∨ (Pl.noEnd (Pl.L s) = false ∧ 0 ≤ n))) ∧ Below w.heap.size w w' := by
  have h8z : decide ((8 : Int) < (s.size : Int)) = false := decide_eq_false (by omega)
  go_enter Tryd.func76, Tryd.ntmps76
  go_wp2_with (go_at_call 92; refine (should_walk _ _).mono ?_; rintro e w' ⟨rfl, rfl⟩; rw [h8z])
  go_loopw [9, 10] (fun _ _ wx => ∃ i : Nat, Hid (wx.heap[w.heap.size]? = some (.stringIter s i)) ∧ i ≤ s.size ∧ Hid (Below w.heap.size w wx) ∧ Hid (Pl.noE (Pl.L s) i)) (fun _ _ wx => s.size - wx.iterPos w.heap.size)
  case atStart => exact ⟨0, heap_alloc_new w _, Nat.zero_le _, (Below.refl _ _).alloc (Nat.le_refl _) _, fun j hj => absurd hj (Nat.not_lt_zero _)⟩
  case round =>
    obtain ⟨i, HI, hi, HB, HN⟩ := hrel
    rcases Nat.lt_or_ge i s.size with hlt | hge
    · have hpos : wr.iterPos w.heap.size = i := by unfold World.iterPos; rw [HI.out]
      by_cases ha : (s[i]'hlt).toNat < 128
      · have hnx := fun ty => Lib.run_next_ascii_at (P := Tryd.prog) wr w.heap.size s i ty HI.out hlt ha
        have HLG : Hid ((Pl.L s).getD i 0 = s[i]'hlt) := (Pl.L_get s i hlt).symm
        obtain ⟨x, hx⟩ : ∃ x, s[i]'hlt = x := ⟨_, rfl⟩
        rw [hx] at hnx ha HLG
        clear hx
        have HX : Hid ((wr.iterAt w.heap.size s (i + 1)).heap[w.heap.size]? = some (.stringIter s (i + 1))) := Lib.iterAt_heap wr _ s i (i + 1) HI.out
        have HXB : Hid (Below w.heap.size w (wr.iterAt w.heap.size s (i + 1))) := Mm.below_iterAt HB.out (Nat.le_refl _) s (i + 1)
        generalize wr.iterAt w.heap.size s (i + 1) = wn at hnx HX HXB
        rcases Pl.idx2 x with ⟨hx1, hx2⟩ | ⟨hx1, hx2⟩
        · obtain ⟨N, hN⟩ : ∃ N, N = Lib.indexByte [13, 10] x := ⟨_, rfl⟩
          have hNN : 0 ≤ N := by rw [hN]; exact hx2
          have HN' := Pl.hid hN
          clear hN hx2
          go_wp2_with (go_at_call 91; refine (indexRune_lo x ha _).mono ?_; rintro e w' ⟨rfl, rfl⟩; rw [← HN'.out])
          go_ret
          refine ⟨⟨_, rfl, .inr ⟨Pl.noE_not (i := i) (by rw [Pl.L_length]; exact hlt) (by rw [HLG.out]; exact hx1), by omega⟩⟩, HXB.out⟩
        · have hlt1 : ¬ (0 : Int) ≤ -1 := by decide
          go_wp2_with (go_at_call 91; refine (indexRune_lo x ha _).mono ?_; rintro e w' ⟨rfl, rfl⟩; rw [hx2])
          go_roundw
          case rel =>
            refine ⟨i + 1, HX, hlt, HXB, fun j hj => ?_⟩
            rcases Nat.lt_or_ge j i with h | h
            · exact HN.out j h
            · rw [show j = i by omega, HLG.out]; exact hx1
          case measure => rw [hpos]; unfold World.iterPos; rw [HX.out]; simp only; omega
      · have hhi : 128 ≤ (s[i]'hlt).toNat := by omega
        have hnx := fun ty => Lib.run_next_any_at (P := Tryd.prog) wr w.heap.size s i ty HI.out hlt
        have HD := Pl.hid (Pl.dec_span s i hlt hhi)
        obtain ⟨hd1, hd2⟩ := decode_high s i hlt hhi
        have hd3 := decode_le s i
        have HX : Hid ((wr.iterAt w.heap.size s (i + (Utf8.decode s i).2)).heap[w.heap.size]? = some (.stringIter s (i + (Utf8.decode s i).2))) := Lib.iterAt_heap wr _ s i _ HI.out
        have HXB : Hid (Below w.heap.size w (wr.iterAt w.heap.size s (i + (Utf8.decode s i).2))) := Mm.below_iterAt HB.out (Nat.le_refl _) s _
        generalize wr.iterAt w.heap.size s (i + (Utf8.decode s i).2) = wn at hnx HX HXB
        obtain ⟨c, hc⟩ : ∃ c, (Utf8.decode s i).1 = c := ⟨_, rfl⟩
        obtain ⟨d, hd⟩ : ∃ d, (Utf8.decode s i).2 = d := ⟨_, rfl⟩
        rw [hc] at hnx hd1 hd3
        rw [hd] at HX HD hd2
        clear hc hd
        have hlt1 : ¬ (0 : Int) ≤ -1 := by decide
        go_wp2_with (go_at_call 91; refine (indexRune_hi (c : Int) (by omega) _).mono ?_; rintro e w' ⟨rfl, hw⟩; have HW := Pl.hid hw; clear hw)
        have HX' := HW.out.block w.heap.size (Array.getElem?_eq_some_iff.1 HX.out).1
        go_roundw
        case rel =>
          refine ⟨i + d, HX'.trans HX.out, HD.out.1, HXB.out.trans (HW.out.mono HXB.out.size), fun j hj => ?_⟩
          rcases Nat.lt_or_ge j i with h | h
          · exact HN.out j h
          · have h1 := HD.out.2 j h hj
            have h2 := HD.out.1
            rw [Pl.get_bang s j (by omega)] at h1
            exact Pl.hi_isEnd _ h1
        case measure => have h2 := HD.out.1; rw [hpos]; unfold World.iterPos; rw [HX', HX.out]; simp only; omega
    · have hnx := fun ty => Lib.run_next_end_at (P := Tryd.prog) wr w.heap.size s i ty HI.out (by omega)
      go_wp2
      go_ret
      exact ⟨⟨_, rfl, .inl ⟨Pl.noE_all HN.out (by rw [Pl.L_length]; exact hge), rfl⟩⟩, HB.out⟩

/-- strings.ContainsAny(s, "\r\n") -/
theorem containsAny_walk (s : ByteArray) (hs : s.size < 4294967281) (w : World) :
    Calls Tryd.prog 62 #[.string s, .string ⟨#[13, 10]⟩] w fun e w' => e = .returned (.bool (!Pl.noEnd (Pl.L s))) ∧ Below w.heap.size w w' := by
  have key : Calls Tryd.prog 76 #[.string s, .string ⟨#[13, 10]⟩] w fun e w' => (∃ n : Int, e = .returned (.int .i64 n) ∧ ((Pl.noEnd (Pl.L s) = true ∧ n = -1) ∨ (Pl.noEnd (Pl.L s) = false ∧ 0 ≤ n))) ∧ Below w.heap.size w w' := by
    rcases Nat.lt_or_ge 8 s.size with h | h
    · refine (Tryd.strings_IndexAny_long (zero_of_info (n := 256) (by kernel_rfl)).1 s ⟨#[13, 10]⟩ w (by decide) h hs (by decide) ?_).mono ?_
      · intro j b hj
        rcases j with _ | _ | j
        · simp at hj; subst hj; decide
        · simp at hj; subst hj; decide
        · simp at hj
      · rintro e w' ⟨rfl, rfl⟩
        exact ⟨⟨_, rfl, Pl.any2 _⟩, ((Below.refl _ _).alloc (Nat.le_refl _) _).alloc (by simp) _⟩
    · exact indexAny_short s h w
  go_enter Tryd.func62, Tryd.ntmps62
  go_wp2_with fail
  go_at_call 76
  refine key.mono ?_
  rintro e w' ⟨⟨n, rfl, hn⟩, hb⟩
  go_wp2_with fail
  go_ret
  refine ⟨?_, hb⟩
  rcases hn with ⟨h1, rfl⟩ | ⟨h1, h2⟩
  · rw [h1]; rfl
  · rw [h1]; simp [h2]
end Go.Proofs.YtakldjdohgmeiaaDoor
