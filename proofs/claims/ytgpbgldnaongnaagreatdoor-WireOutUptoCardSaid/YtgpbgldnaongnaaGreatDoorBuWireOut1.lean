/- Plain laws on numbers of 64 bits: no Go in sight. No condition beyond those that stand in each law. Plain laws on words of digits: what is read as a whole number, and how a number is written. No condition beyond those that stand in each law. Contract of digit.plain: is a word digits in their one form? No condition but the form's reach. Contract of the reference's Text: a number's word. Condition: the number fits 64 bits. Laws on memory for the walks of this seat: bytes in rows that the call itself made. Conditions stand in each law. Contracts of request's hex, blank, single, double: the bytes of a quoted word. Conditions: texts within the form's reach. Conditions stand in each law. -/
import Derived.WalkKit
import Derived.Lib.ParseIntBTie
import Derived.Lib.ItoaNum
import Derived.Test.YtgpbgldnaongnaaGreatDoorProg
import Derived.Laws.OwnMore
import Derived.Deep.Draws
import Derived.Laws.IdiomStrings
import Derived.Deep.QuietTactic
import Derived.BigQuiet
namespace Go.Proofs.YtgpbgldnaongnaaGreatDoor.Pl
open Go.RowKit

theorem ret1i {k : IntKind} {a b : Int} (h : a = b) : Ending.returned (.int k a) = .returned (.int k b) := by rw [h]
theorem ret1b {a b : Bool} (h : a = b) : Ending.returned (.bool a) = .returned (.bool b) := by rw [h]
theorem ret1s {a b : ByteArray} (h : a = b) : Ending.returned (.string a) = .returned (.string b) := by rw [h]
theorem ret2si {k : IntKind} {a b : ByteArray} {c d : Int} (h : a = b) (h' : c = d) : Ending.returned (.tuple #[.string a, .int k c]) = .returned (.tuple #[.string b, .int k d]) := by rw [h, h']
theorem ret3sii {k l : IntKind} {a b : ByteArray} {c d e f : Int} (h : a = b) (h' : c = d) (h'' : e = f) : Ending.returned (.tuple #[.string a, .int k c, .int l e]) = .returned (.tuple #[.string b, .int k d, .int l f]) := by rw [h, h', h'']
theorem ret2ii {k l : IntKind} {a b c d : Int} (h : a = b) (h' : c = d) : Ending.returned (.tuple #[.int k a, .int l c]) = .returned (.tuple #[.int k b, .int l d]) := by rw [h, h']
theorem ret2ib {k : IntKind} {a b : Int} {c d : Bool} (h : a = b) (h' : c = d) : Ending.returned (.tuple #[.int k a, .bool c]) = .returned (.tuple #[.int k b, .bool d]) := by rw [h, h']
theorem hid {p : Prop} (h : p) : Hid p := h

def In64 (n : Int) : Prop := -9223372036854775808 ≤ n ∧ n ≤ 9223372036854775807

theorem wrap64_lo (n : Int) : -9223372036854775808 ≤ wrap64 n := by unfold wrap64; omega
theorem wrap64_hi (n : Int) : wrap64 n ≤ 9223372036854775807 := by unfold wrap64; omega

theorem bv_of_wrap (r : BitVec 64) : BitVec.ofInt 64 (IntKind.i64.wrap (r.toNat : Int)) = r := by
  apply BitVec.eq_of_toNat_eq
  rw [BitVec.toNat_ofInt, IntKind.wrap_i64]
  have h := r.isLt
  omega

theorem wrap_neg (r : BitVec 64) : IntKind.i64.wrap (r.toNat : Int) < 0 ↔ r.msb = true := by
  have h := r.isLt
  rw [IntKind.wrap_i64, BitVec.msb_eq_decide]
  simp only [decide_eq_true_eq]
  omega

theorem msb_of (a : Int) (h : In64 a) : (BitVec.ofInt 64 a).msb = decide (a < 0) := by
  obtain ⟨h1, h2⟩ := h
  rw [BitVec.msb_eq_toInt, BitVec.toInt_ofInt]
  have : a.bmod (2 ^ 64) = a := by
    rw [Int.bmod_def]; split <;> omega
  rw [this]

theorem over_iff (a b : Int) (ha : In64 a) (hb : In64 b) :
    bits BinOp.and IntKind.i64 (bits BinOp.xor IntKind.i64 a (wrap64 (a + b))) (bits BinOp.xor IntKind.i64 b (wrap64 (a + b))) < 0 ↔ ¬ In64 (a + b) := by
  have hs : In64 (wrap64 (a + b)) := ⟨wrap64_lo _, wrap64_hi _⟩
  have key : bits BinOp.and IntKind.i64 (bits BinOp.xor IntKind.i64 a (wrap64 (a + b))) (bits BinOp.xor IntKind.i64 b (wrap64 (a + b))) =
      IntKind.i64.wrap (((BitVec.ofInt 64 a ^^^ BitVec.ofInt 64 (wrap64 (a + b))) &&& (BitVec.ofInt 64 b ^^^ BitVec.ofInt 64 (wrap64 (a + b)))).toNat : Int) := by
    show IntKind.i64.wrap ((BitVec.ofInt 64 (IntKind.i64.wrap ((BitVec.ofInt 64 a ^^^ BitVec.ofInt 64 (wrap64 (a + b))).toNat : Int)) &&& BitVec.ofInt 64 (IntKind.i64.wrap ((BitVec.ofInt 64 b ^^^ BitVec.ofInt 64 (wrap64 (a + b))).toNat : Int))).toNat : Int) = _
    rw [bv_of_wrap, bv_of_wrap]
  rw [key, wrap_neg, BitVec.msb_and, BitVec.msb_xor, BitVec.msb_xor, msb_of a ha, msb_of b hb, msb_of _ hs]
  obtain ⟨h1, h2⟩ := ha
  obtain ⟨h3, h4⟩ := hb
  unfold In64 wrap64
  by_cases c1 : a < 0 <;> by_cases c2 : b < 0 <;> simp [c1, c2] <;> omega

/-- what Add tells: the sum, or 0 -/
def addV (a b : Int) : Int := if -9223372036854775808 ≤ a + b ∧ a + b ≤ 9223372036854775807 then a + b else 0
/-- and how it went -/
def addC (a b : Int) : Int := if -9223372036854775808 ≤ a + b ∧ a + b ≤ 9223372036854775807 then 0 else 11
theorem addV_in {a b : Int} (h : In64 (a + b)) : addV a b = a + b := if_pos h
theorem addV_out {a b : Int} (h : ¬ In64 (a + b)) : addV a b = 0 := if_neg h
theorem addC_in {a b : Int} (h : In64 (a + b)) : addC a b = 0 := if_pos h
theorem addC_out {a b : Int} (h : ¬ In64 (a + b)) : addC a b = 11 := if_neg h

/-- a number below 0 counts from the end -/
def cnt (i n : Int) : Int := if i < 0 then i + n else i
theorem cnt_neg {i n : Int} (h : i < 0) : cnt i n = i + n := if_pos h
theorem cnt_pos {i n : Int} (h : 0 ≤ i) : cnt i n = i := if_neg (by omega)
theorem cnt_in {i n : Int} (h : In64 i) (h0 : 0 ≤ n) (h1 : n ≤ 9223372036854775807) : -9223372036854775808 ≤ cnt i n ∧ cnt i n ≤ 9223372036854775807 := by
  obtain ⟨h1, h2⟩ := h
  unfold cnt; split <;> omega
def nn (n : Int) : Int := if n < 0 then 0 else n
theorem nn_bd (n : Int) (h : n ≤ 9223372036854775807) : 0 ≤ nn n ∧ nn n ≤ 9223372036854775807 := by unfold nn; split <;> omega
/-- where a stretch begins and ends -/
def spF (a b n : Int) : Int := if (if cnt a (nn n) < 0 then 0 else cnt a (nn n)) ≤ (if nn n - 1 < cnt b (nn n) then nn n - 1 else cnt b (nn n)) then (if cnt a (nn n) < 0 then 0 else cnt a (nn n)) else 0
def spT (a b n : Int) : Int := if (if cnt a (nn n) < 0 then 0 else cnt a (nn n)) ≤ (if nn n - 1 < cnt b (nn n) then nn n - 1 else cnt b (nn n)) then (if nn n - 1 < cnt b (nn n) then nn n - 1 else cnt b (nn n)) + 1 else 0
def plV (i n : Int) : Int := if 0 ≤ cnt i (nn n) ∧ cnt i (nn n) < nn n then cnt i (nn n) else 0
def plB (i n : Int) : Bool := decide (0 ≤ cnt i (nn n) ∧ cnt i (nn n) < nn n)

/-! texts as lists of bytes -/
def B (l : List UInt8) : ByteArray := ⟨l.toArray⟩
def L (s : ByteArray) : List UInt8 := s.data.toList
theorem L_B (l : List UInt8) : L (B l) = l := by simp [L, B]
theorem B_L (s : ByteArray) : B (L s) = s := by cases s; simp [L, B]
theorem L_length (s : ByteArray) : (L s).length = s.size := by unfold L; rw [Array.length_toList]; rfl
theorem B_size (l : List UInt8) : (B l).size = l.length := by rw [← L_length, L_B]
theorem B_congr {a b : List UInt8} (h : a = b) : B a = B b := by rw [h]
theorem L_get (s : ByteArray) (k : Nat) (h : k < s.size) : s[k] = (L s).getD k 0 := by
  have h' : k < s.data.toList.length := by rw [Array.length_toList]; exact h
  unfold L
  rw [List.getD_eq_getElem?_getD, List.getElem?_eq_getElem h', Option.getD_some, Array.getElem_toList]
  rfl
/-- the byte at a place, as a number; 0 behind the end -/
def at_ (l : List UInt8) (i : Nat) : Int := ((l.getD i 0).toNat : Int)
theorem at_in (s : ByteArray) (k : Nat) (h : k < s.size) : ((s[k]'h).toNat : Int) = at_ (L s) k := by unfold at_; rw [L_get]
theorem at_out (l : List UInt8) (k : Nat) (h : l.length ≤ k) : at_ l k = 0 := by unfold at_; rw [List.getD_eq_getElem?_getD, List.getElem?_eq_none h]; rfl
theorem at_bd (l : List UInt8) (k : Nat) : 0 ≤ at_ l k ∧ at_ l k ≤ 255 := by
  unfold at_
  have := (l.getD k 0).toNat_lt
  omega

/-- a stretch of a list -/
def slc (l : List UInt8) (f t : Nat) : List UInt8 := (l.drop f).take (t - f)
theorem extract_B (s : ByteArray) (f t : Nat) : s.extract f t = B (slc (L s) f t) := by
  obtain ⟨⟨l⟩⟩ := s
  rw [ByteArray.extract_mk]
  rfl
/-- where a stretch of n places begins and ends, as places -/
def sF (a b : Int) (n : Nat) : Nat := (spF a b n).toNat
def sT (a b : Int) (n : Nat) : Nat := (spT a b n).toNat
theorem sFT (a b : Int) (n : Nat) : sF a b n ≤ sT a b n ∧ sT a b n ≤ n ∧ spF a b n = (sF a b n : Int) ∧ spT a b n = (sT a b n : Int) := by
  have h : nn (n : Int) = n := if_neg (by omega)
  unfold sF sT
  have h1 : 0 ≤ spF a b n ∧ spF a b n ≤ spT a b n ∧ spT a b n ≤ n := by
    unfold spF spT
    rw [h]
    split <;> (repeat' split) <;> omega
  omega
theorem ret2sn {k l : IntKind} {a b c d : Int} (h : a = b) (h' : c = d) : Ending.returned (.tuple #[.int k a, .int l c]) = .returned (.tuple #[.int k b, .int l d]) := by rw [h, h']
/-- Slice -/
def slcL (l : List UInt8) (a b : Int) : List UInt8 := slc l (sF a b l.length) (sT a b l.length)
theorem slcL_eq (s : ByteArray) (a b : Int) : s.extract (sF a b s.size) (sT a b s.size) = B (slcL (L s) a b) := by
  rw [extract_B]; unfold slcL; rw [L_length]
theorem slcL_eq' (s : ByteArray) (a b : Int) : slc (L s) (sF a b s.size) (sT a b s.size) = slcL (L s) a b := by
  unfold slcL; rw [L_length]
theorem slc_length (l : List UInt8) (f t : Nat) (h1 : f ≤ t) (h2 : t ≤ l.length) : (slc l f t).length = t - f := by unfold slc; rw [List.length_take, List.length_drop]; omega
theorem slc_snoc (l : List UInt8) (f t : Nat) (h1 : f ≤ t) (h2 : t < l.length) : slc l f (t + 1) = slc l f t ++ [l.getD t 0] := by
  unfold slc
  have hd : t - f < (l.drop f).length := by rw [List.length_drop]; omega
  rw [show t + 1 - f = (t - f) + 1 by omega, List.take_succ_eq_append_getElem hd]
  congr 2
  rw [List.getElem_drop, List.getD_eq_getElem?_getD, List.getElem?_eq_getElem (by omega : t < l.length), Option.getD_some]
  congr 1
  omega
theorem slc_nil (l : List UInt8) (f : Nat) : slc l f f = [] := by unfold slc; simp
theorem slcL_le (s : ByteArray) (a b : Int) : (slcL (L s) a b).length ≤ s.size := by
  unfold slcL slc
  rw [List.length_take, List.length_drop, L_length]
  omega
/-! bits -/
def bitL (l : List UInt8) (i : Nat) : Int := at_ l (i / 8) / 2 ^ (7 - i % 8) % 2
theorem bitL_01 (l : List UInt8) (i : Nat) : bitL l i = 0 ∨ bitL l i = 1 := by unfold bitL; omega
/-- the bit within its byte -/
def mskN (m : Nat) : Nat := 128 / 2 ^ m
def msk (m : Nat) : Int := (mskN m : Int)
theorem msk_eq (m : Nat) : (128 : Int) / 2 ^ m = msk m := by unfold msk mskN; rw [Int.natCast_ediv, Int.natCast_pow]; rfl
theorem and_fin : ∀ x : Fin 256, ∀ m : Fin 8, (bits BinOp.and IntKind.u8 (x.val : Int) (msk m.val) == 0) = decide ((x.val : Int) / 2 ^ (7 - m.val) % 2 = 0) := by decide +kernel
theorem and_msk (x : Int) (h0 : 0 ≤ x) (h1 : x ≤ 255) (m : Nat) (hm : m < 8) : (bits BinOp.and IntKind.u8 x (msk m) == 0) = decide (x / 2 ^ (7 - m) % 2 = 0) := by
  obtain ⟨n, rfl⟩ := Int.eq_ofNat_of_zero_le h0
  exact and_fin ⟨n, by omega⟩ ⟨m, hm⟩
theorem half_bd (c : Int) (h0 : 0 ≤ c) (h1 : c ≤ 255) (k : Nat) : 0 ≤ c / 2 ^ k ∧ c / 2 ^ k ≤ 255 := by
  have hp : (0 : Int) < 2 ^ k := Int.pow_pos (by decide)
  refine ⟨Int.ediv_nonneg h0 (by omega), ?_⟩
  exact Int.le_trans (Int.ediv_le_self _ h0) h1
theorem half_half (c : Int) (k : Nat) : c / 2 ^ k / 2 = c / 2 ^ (k + 1) := by
  rw [Int.pow_succ, Int.ediv_ediv_of_nonneg (Int.le_of_lt (Int.pow_pos (by decide)))]
theorem half_zero (c : Int) : c / 2 ^ 0 = c := by simp
def byteV (b : UInt8) : Value := .int .u8 b.toNat
def bytesV (l : List UInt8) : List Value := l.map byteV
theorem bytesV_length (l : List UInt8) : (bytesV l).length = l.length := by simp [bytesV]
theorem bytesV_append (l m : List UInt8) : bytesV (l ++ m) = bytesV l ++ bytesV m := by simp [bytesV]
theorem bytesV_one (l : List UInt8) : ∀ u ∈ bytesV l, u.oneCell' = true := by
  intro u hu
  simp only [bytesV, List.mem_map] at hu
  obtain ⟨b, _, rfl⟩ := hu
  rfl
theorem take_snoc (l : List UInt8) (k : Nat) (h : k < l.length) : l.take (k + 1) = l.take k ++ [l.getD k 0] := by
  rw [List.take_succ_eq_append_getElem h, List.getD_eq_getElem?_getD, List.getElem?_eq_getElem h, Option.getD_some]
/-- a number as a byte -/
def ofI (x : Int) : UInt8 := UInt8.ofNat x.toNat
theorem ofI_nat {x : Int} (h0 : 0 ≤ x) (h1 : x ≤ 255) : ((ofI x).toNat : Int) = x := by
  unfold ofI
  rw [UInt8.toNat_ofNat']
  omega
theorem ofI_byte (c : UInt8) : ofI (c.toNat : Int) = c := by
  unfold ofI
  rw [Int.toNat_natCast]
  exact UInt8.ofNat_toNat
theorem ofI_at (l : List UInt8) (k : Nat) : ofI (at_ l k) = l.getD k 0 := ofI_byte _
theorem at_set (l : List UInt8) (k : Nat) (c : UInt8) (h : k < l.length) : at_ (l.set k c) k = (c.toNat : Int) := by
  unfold at_
  rw [List.getD_eq_getElem?_getD, List.getElem?_set, if_pos rfl, if_pos h]
  rfl
/-- a list with another one laid over it -/
def spl (l : List UInt8) (o : Nat) (m : List UInt8) : List UInt8 := l.take o ++ m ++ l.drop (o + m.length)
theorem spl_length (l m : List UInt8) (o : Nat) (h : o + m.length ≤ l.length) : (spl l o m).length = l.length := by
  unfold spl
  simp only [List.length_append, List.length_take, List.length_drop]
  omega
theorem spl_getD (l m : List UInt8) (o i : Nat) (h : o + m.length ≤ l.length) : (spl l o m).getD i 0 = if o ≤ i ∧ i < o + m.length then m.getD (i - o) 0 else l.getD i 0 := by
  unfold spl
  simp only [List.getD_eq_getElem?_getD, List.append_assoc, List.getElem?_append, List.length_take, List.getElem?_take, List.getElem?_drop]
  have e : min o l.length = o := by omega
  rw [e]
  by_cases h1 : i < o
  · rw [if_pos h1, if_pos h1, if_neg (by omega)]
  · rw [if_neg h1]
    by_cases h2 : i < o + m.length
    · rw [if_pos (by omega), if_pos (by omega)]
    · rw [if_neg (by omega), if_neg (by omega)]
      congr 2
      omega
theorem list_ext0 {l m : List UInt8} (h : l.length = m.length) (hg : ∀ i, i < l.length → l.getD i 0 = m.getD i 0) : l = m := by
  apply List.ext_getElem h
  intro i h1 h2
  have := hg i h1
  simpa [List.getD_eq_getElem?_getD, List.getElem?_eq_getElem h1, List.getElem?_eq_getElem h2] using this
/-- a text, filled with bytes 0 to at least so many -/
def filL (l : List UInt8) (n : Nat) : List UInt8 := l ++ List.replicate (n - l.length) 0
theorem filL_length (l : List UInt8) (n : Nat) : (filL l n).length = max l.length n := by unfold filL; simp; omega
theorem filL_getD (l : List UInt8) (n i : Nat) : (filL l n).getD i 0 = l.getD i 0 := by
  unfold filL
  simp only [List.getD_eq_getElem?_getD, List.getElem?_append, List.getElem?_replicate]
  by_cases h : i < l.length
  · rw [if_pos h]
  · rw [if_neg h, List.getElem?_eq_none (by omega)]
    split <;> rfl
theorem fil_spl (l : List UInt8) (m n : Nat) (h : l.length ≤ m) (hm : m = max l.length n) : spl (List.replicate m 0) 0 l = filL l n := by
  apply list_ext0
  · rw [spl_length _ _ _ (by simp; omega), filL_length]
    simp [hm]
  · intro i _
    rw [spl_getD _ _ _ _ (by simp; omega), filL_getD]
    split
    · rw [Nat.sub_zero]
    · rename_i hc
      simp only [List.getD_eq_getElem?_getD, List.getElem?_replicate]
      rw [List.getElem?_eq_none (by omega : l.length ≤ i)]
      split <;> rfl
end Go.Proofs.YtgpbgldnaongnaaGreatDoor.Pl

namespace Go.Proofs.YtgpbgldnaongnaaGreatDoor.Pl
open Go.RowKit

/-- a byte that is a digit -/
def isDB (c : UInt8) : Bool := decide (48 ≤ c.toNat) && decide (c.toNat ≤ 57)
/-- digits in their one form -/
def plainW (l : List UInt8) : Bool := l == [48] || (!l.isEmpty && decide (l.head? ≠ some 48) && l.all isDB)
/-- what a word of digits counts, behind what was counted -/
def num : Nat → List UInt8 → Nat
  | acc, [] => acc
  | acc, c :: r => num (acc * 10 + (c.toNat - 48)) r

def allD (l : List UInt8) : Prop := ∀ c ∈ l, 48 ≤ c.toNat ∧ c.toNat ≤ 57

theorem allD_iff (l : List UInt8) : l.all isDB = true ↔ allD l := by
  unfold allD isDB
  rw [List.all_eq_true]
  constructor
  · intro h c hc
    have := h c hc
    simpa using this
  · intro h c hc
    have := h c hc
    simpa using this

theorem num_append : ∀ (a b : List UInt8) (acc : Nat), num acc (a ++ b) = num (num acc a) b
  | [], _, _ => rfl
  | c :: a, b, acc => num_append a b (acc * 10 + (c.toNat - 48))
theorem num_snoc (l : List UInt8) (c : UInt8) : num 0 (l ++ [c]) = num 0 l * 10 + (c.toNat - 48) := by
  rw [num_append]
  rfl
theorem num_ge : ∀ (l : List UInt8) (acc : Nat), acc ≤ num acc l
  | [], _ => Nat.le_refl _
  | c :: r, acc => Nat.le_trans (by omega) (num_ge r (acc * 10 + (c.toNat - 48)))
theorem num_ge_pow : ∀ (l : List UInt8) (acc : Nat), acc * 10 ^ l.length ≤ num acc l
  | [], acc => by
    show acc * 10 ^ 0 ≤ acc
    omega
  | c :: r, acc => by
    have h := num_ge_pow r (acc * 10 + (c.toNat - 48))
    rw [List.length_cons, Nat.pow_succ, Nat.mul_comm (10 ^ r.length) 10, ← Nat.mul_assoc]
    show _ ≤ num (acc * 10 + (c.toNat - 48)) r
    have h2 : acc * 10 * 10 ^ r.length ≤ (acc * 10 + (c.toNat - 48)) * 10 ^ r.length := Nat.mul_le_mul_right _ (Nat.le_add_right _ _)
    exact Nat.le_trans h2 h
theorem num_lt : ∀ (l : List UInt8) (acc k : Nat), allD l → acc < 10 ^ k → num acc l < 10 ^ (k + l.length)
  | [], acc, k, _, h => h
  | c :: r, acc, k, hd, h => by
    have hc := hd c (by simp)
    have h' : acc * 10 + (c.toNat - 48) < 10 ^ (k + 1) := by
      rw [Nat.pow_succ]
      omega
    have := num_lt r _ (k + 1) (fun x hx => hd x (by simp [hx])) h'
    rw [List.length_cons, show k + (r.length + 1) = k + 1 + r.length by omega]
    exact this

theorem plainW_cases {l : List UInt8} (h : plainW l = true) : l = [48] ∨ ∃ c r, l = c :: r ∧ c ≠ 48 ∧ allD l := by
  unfold plainW at h
  rw [Bool.or_eq_true] at h
  rcases h with h | h
  · exact Or.inl (by simpa using h)
  · rw [Bool.and_eq_true, Bool.and_eq_true] at h
    obtain ⟨⟨h1, h2⟩, h3⟩ := h
    cases l with
    | nil => simp at h1
    | cons c r => exact Or.inr ⟨c, r, rfl, by simpa using h2, (allD_iff _).1 h3⟩
theorem plainW_allD {l : List UInt8} (h : plainW l = true) : allD l ∧ l ≠ [] := by
  rcases plainW_cases h with rfl | ⟨c, r, rfl, _, h3⟩
  · refine ⟨?_, by simp⟩
    intro c hc
    simp at hc
    subst hc
    decide
  · exact ⟨h3, by simp⟩
theorem plainW_of {c : UInt8} {r : List UInt8} (h : c ≠ 48) (hd : allD (c :: r)) : plainW (c :: r) = true := by
  unfold plainW
  rw [Bool.or_eq_true]
  right
  rw [Bool.and_eq_true, Bool.and_eq_true]
  exact ⟨⟨rfl, by simpa using h⟩, (allD_iff _).2 hd⟩
theorem plainW_head {c : UInt8} {r : List UInt8} (h : plainW (c :: r) = true) : 48 ≤ c.toNat ∧ c.toNat ≤ 57 := (plainW_allD h).1 c (by simp)
/-- many digits make a great number -/
theorem num_big {c : UInt8} {r : List UInt8} (h : c ≠ 48) (hd : allD (c :: r)) : 10 ^ r.length ≤ num 0 (c :: r) := by
  have hc := hd c (by simp)
  have hn : c.toNat ≠ 48 := fun e => h (UInt8.toNat_inj.1 e)
  have h1 := num_ge_pow r (0 * 10 + (c.toNat - 48))
  refine Nat.le_trans ?_ h1
  exact Nat.le_trans (by rw [Nat.one_mul]; exact Nat.le_refl _) (Nat.mul_le_mul_right (10 ^ r.length) (show 1 ≤ 0 * 10 + (c.toNat - 48) by omega))
theorem plainW_big {l : List UInt8} (h : plainW l = true) (n : Nat) (hn : n < l.length) (h1 : 1 ≤ n) : 10 ^ n ≤ num 0 l := by
  rcases plainW_cases h with rfl | ⟨c, r, rfl, h2, h3⟩
  · simp at hn
    omega
  · refine Nat.le_trans ?_ (num_big h2 h3)
    exact Nat.pow_le_pow_right (by decide) (by simp at hn; omega)

/-! what the library's two readers tell of such a word -/
theorem parseM {M : Nat} (hM : M ≤ 18446744073709551615) : ∀ (l : List UInt8) (acc : Nat), allD l → acc ≤ M →
    Lib.parseUintM M acc l = if num acc l ≤ M then .ok (num acc l) else .range
  | [], acc, _, h => by
    show Lib.NumEnd.ok acc = if acc ≤ M then .ok acc else .range
    rw [if_pos h]
  | c :: r, acc, hd, h => by
    have hc : 48 ≤ c.toNat ∧ c.toNat ≤ 57 := hd c (by simp)
    have hr : allD r := fun x hx => hd x (by simp [hx])
    have hg := num_ge r (acc * 10 + (c.toNat - 48))
    have e : num acc (c :: r) = num (acc * 10 + (c.toNat - 48)) r := rfl
    rw [e]
    unfold Lib.parseUintM
    rw [if_pos hc]
    by_cases h1 : 1844674407370955162 ≤ acc
    · rw [if_pos h1, if_neg (by omega)]
    · rw [if_neg h1]
      by_cases h2 : M < acc * 10 + (c.toNat - 48)
      · rw [if_pos h2, if_neg (by omega)]
      · rw [if_neg h2]
        exact parseM hM r _ hr (by omega)

theorem parseU {l : List UInt8} (h : plainW l = true) : Lib.parseUintB 64 l = if num 0 l ≤ 18446744073709551615 then .ok (num 0 l) else .range := by
  obtain ⟨h1, h2⟩ := plainW_allD h
  have e : (2 : Nat) ^ 64 - 1 = 18446744073709551615 := by decide
  unfold Lib.parseUintB
  rw [if_neg h2, e]
  exact parseM (Nat.le_refl _) l 0 h1 (Nat.zero_le _)
theorem parseI {l : List UInt8} (h : plainW l = true) : Lib.parseIntB 64 l = if num 0 l ≤ 9223372036854775807 then .ok (num 0 l : Int) else .range := by
  have e : (2 : Nat) ^ (64 - 1) = 9223372036854775808 := by decide
  have hu := parseU h
  cases l with
  | nil => simp [plainW] at h
  | cons c r =>
    have hc := plainW_head h
    rw [Lib.parseIntB_plain 64 c r (by omega) (by omega), hu, e]
    by_cases h1 : num 0 (c :: r) ≤ 18446744073709551615
    · rw [if_pos h1]
      simp only [Lib.signlessC]
      by_cases h2 : 9223372036854775808 ≤ num 0 (c :: r)
      · rw [if_pos h2, if_neg (by omega)]
      · rw [if_neg h2, if_pos (by omega)]
    · rw [if_neg h1, if_neg (by omega)]
      rfl
theorem parseN {r : List UInt8} (h : plainW r = true) : Lib.parseIntB 64 (45 :: r) = if num 0 r ≤ 9223372036854775808 then .ok (-(num 0 r : Int)) else .range := by
  have e : (2 : Nat) ^ (64 - 1) = 9223372036854775808 := by decide
  rw [Lib.parseIntB_minus, parseU h, e]
  by_cases h1 : num 0 r ≤ 18446744073709551615
  · rw [if_pos h1]
    simp only [Lib.signedC]
    by_cases h2 : 9223372036854775808 < num 0 r
    · rw [if_pos h2, if_neg (by omega)]
    · rw [if_neg h2, if_pos (by omega)]
  · rw [if_neg h1, if_neg (by omega)]
    rfl

/-! the two readers of the layer -/
/-- what Uint reads -/
def rU (l : List UInt8) : Option Nat := if plainW l = true ∧ num 0 l ≤ 18446744073709551615 then some (num 0 l) else none
/-- what Int reads -/
def rI (l : List UInt8) : Option Int :=
  if l.head? = some 45 then if plainW l.tail = true ∧ l.tail ≠ [48] ∧ num 0 l.tail ≤ 9223372036854775808 then some (-(num 0 l.tail : Int)) else none
  else if plainW l = true ∧ num 0 l ≤ 9223372036854775807 then some (num 0 l : Int) else none
/-- the word behind the sign, as Int takes it -/
def iW (l : List UInt8) : List UInt8 := if 1 < l.length ∧ l.head? = some 45 ∧ l ≠ [45, 48] then l.tail else l
def cU (l : List UInt8) : Option Nat := match Lib.parseUintB 64 l with
  | .ok v => if plainW l = true then some v else none
  | _ => none
def cI (l : List UInt8) : Option Int := match Lib.parseIntB 64 l with
  | .ok v => if plainW (iW l) = true then some v else none
  | _ => none

theorem cU_eq (l : List UInt8) : cU l = rU l := by
  unfold cU rU
  by_cases h : plainW l = true
  · rw [parseU h]
    by_cases h1 : num 0 l ≤ 18446744073709551615
    · simp [h, h1]
    · simp [h, h1]
  · cases Lib.parseUintB 64 l <;> simp [h]
theorem plain_minus (r : List UInt8) : plainW (45 :: r) = false := by
  cases h : plainW (45 :: r)
  · rfl
  · have := plainW_head h
    exact absurd this.1 (by decide)
theorem cI_eq (l : List UInt8) : cI l = rI l := by
  unfold cI rI
  cases l with
  | nil => rfl
  | cons c r =>
    by_cases hc : c = 45
    · subst hc
      rw [if_pos (by rfl)]
      show _ = if plainW r = true ∧ r ≠ [48] ∧ num 0 r ≤ 9223372036854775808 then some (-(num 0 r : Int)) else none
      by_cases hw : r = [] ∨ r = [48]
      · have e : iW (45 :: r) = 45 :: r := by
          unfold iW
          rw [if_neg]
          rintro ⟨h1, _, h3⟩
          rcases hw with rfl | rfl
          · simp at h1
          · exact h3 rfl
        have hn : ¬ (plainW r = true ∧ r ≠ [48] ∧ num 0 r ≤ 9223372036854775808) := by
          rintro ⟨h1, h2, _⟩
          rcases hw with rfl | rfl
          · exact absurd h1 (by decide)
          · exact h2 rfl
        rw [e, plain_minus, if_neg hn]
        cases Lib.parseIntB 64 (45 :: r) <;> simp
      · have hr : r ≠ [] := fun e => hw (Or.inl e)
        have hr' : r ≠ [48] := fun e => hw (Or.inr e)
        have e : iW (45 :: r) = r := by
          unfold iW
          rw [if_pos]
          · rfl
          · refine ⟨?_, rfl, fun e => hr' (by injection e)⟩
            have := List.length_pos_iff.2 hr
            simp only [List.length_cons]
            omega
        rw [e]
        by_cases h : plainW r = true
        · rw [parseN h]
          by_cases h1 : num 0 r ≤ 9223372036854775808
          · simp [h, h1, hr']
          · simp [h, h1]
        · cases Lib.parseIntB 64 (45 :: r) <;> simp [h]
    · have e : iW (c :: r) = c :: r := by
        unfold iW
        rw [if_neg]
        rintro ⟨_, h2, _⟩
        exact hc (by simpa using h2)
      rw [if_neg (by simpa using hc), e]
      by_cases h : plainW (c :: r) = true
      · rw [parseI h]
        by_cases h1 : num 0 (c :: r) ≤ 9223372036854775807
        · simp [h, h1]
        · simp [h, h1]
      · cases Lib.parseIntB 64 (c :: r) <;> simp [h]

theorem rI_bounds {l : List UInt8} {v : Int} (h : rI l = some v) : In64 v := by
  unfold rI at h
  unfold In64
  split at h
  · split at h
    · rename_i h1
      injection h with h
      omega
    · cases h
  · split at h
    · rename_i h1
      injection h with h
      omega
    · cases h

/-! how a number is written -/
theorem num_dec (u : Nat) : num 0 (Lib.decDigits u) = u ∧ allD (Lib.decDigits u) ∧ (u ≠ 0 → ∃ c r, Lib.decDigits u = c :: r ∧ c ≠ 48) := by
  induction u using Nat.strongRecOn with
  | _ u ih =>
    have hd : ∀ k, k < 10 → (UInt8.ofNat (48 + k)).toNat = 48 + k := by
      intro k hk
      rw [UInt8.toNat_ofNat']
      omega
    by_cases h : u < 10
    · rw [Lib.decDigits, dif_pos h]
      refine ⟨?_, ?_, ?_⟩
      · show 0 * 10 + ((UInt8.ofNat (48 + u)).toNat - 48) = u
        rw [hd u h]
        omega
      · intro c hc
        have : c = UInt8.ofNat (48 + u) := by simpa using hc
        subst this
        rw [hd u h]
        omega
      · intro hu
        refine ⟨_, _, rfl, ?_⟩
        intro e
        have := congrArg UInt8.toNat e
        rw [hd u h] at this
        exact hu (by have h48 : (48 : UInt8).toNat = 48 := rfl
                     omega)
    · obtain ⟨h1, h2, h3⟩ := ih (u / 10) (by omega)
      rw [Lib.decDigits, dif_neg h]
      have hk : u % 10 < 10 := Nat.mod_lt _ (by decide)
      refine ⟨?_, ?_, ?_⟩
      · rw [num_snoc, h1, hd _ hk]
        omega
      · intro c hc
        rcases List.mem_append.1 hc with hc | hc
        · exact h2 c hc
        · have : c = UInt8.ofNat (48 + u % 10) := by simpa using hc
          subst this
          rw [hd _ hk]
          omega
      · intro _
        obtain ⟨c, r, e, hc⟩ := h3 (by omega)
        exact ⟨c, r ++ [UInt8.ofNat (48 + u % 10)], by rw [e]; rfl, hc⟩
theorem dec_zero : Lib.decDigits 0 = [48] := by
  rw [Lib.decDigits, dif_pos (by decide)]
  rfl
theorem dec_plain (u : Nat) : plainW (Lib.decDigits u) = true := by
  by_cases h : u = 0
  · subst h
    rw [dec_zero]
    rfl
  · obtain ⟨_, h2, h3⟩ := num_dec u
    obtain ⟨c, r, e, hc⟩ := h3 h
    rw [e] at h2 ⊢
    exact plainW_of hc h2
/-- a word of digits in their one form is that of its number -/
theorem dec_num_aux : ∀ (k : Nat) (l : List UInt8), l.length ≤ k → ∀ c r, l = c :: r → c ≠ 48 → allD l → Lib.decDigits (num 0 l) = l
  | 0, l, hk, c, r, e, _, _ => by
    subst e
    simp at hk
  | k + 1, l, hk, c, r, e, hc, hd => by
    rcases List.eq_nil_or_concat l with h0 | ⟨m, x, hx⟩
    · rw [h0] at e
      cases e
    · have hx' : l = m ++ [x] := by simpa using hx
      have hxd : 48 ≤ x.toNat ∧ x.toNat ≤ 57 := hd x (by rw [hx']; simp)
      have hdx : UInt8.ofNat (48 + (x.toNat - 48)) = x := by
        rw [show 48 + (x.toNat - 48) = x.toNat by omega]
        exact UInt8.ofNat_toNat
      rw [hx', num_snoc]
      cases m with
      | nil =>
        show Lib.decDigits (0 * 10 + (x.toNat - 48)) = [x]
        rw [Lib.decDigits, dif_pos (by omega), show 0 * 10 + (x.toNat - 48) = x.toNat - 48 by omega, hdx]
      | cons y m =>
        have ey : y = c := by
          rw [hx'] at e
          injection e
        subst ey
        have hm : allD (y :: m) := fun z hz => hd z (by rw [hx']; exact List.mem_append_left _ hz)
        have h1 := num_big hc hm
        have h2 : 1 ≤ 10 ^ m.length := Nat.one_le_pow _ _ (by decide)
        have ih := dec_num_aux k (y :: m) (by rw [hx'] at hk; simp at hk; simp; omega) y m rfl hc hm
        rw [Lib.decDigits, dif_neg (by omega), show (num 0 (y :: m) * 10 + (x.toNat - 48)) / 10 = num 0 (y :: m) by omega, ih,
          show (num 0 (y :: m) * 10 + (x.toNat - 48)) % 10 = x.toNat - 48 by omega, hdx]
theorem dec_num {l : List UInt8} (h : plainW l = true) : Lib.decDigits (num 0 l) = l := by
  rcases plainW_cases h with rfl | ⟨c, r, rfl, h2, h3⟩
  · exact dec_zero
  · exact dec_num_aux _ _ (Nat.le_refl _) c r rfl h2 h3

theorem itoa_pos {n : Int} (h : 0 ≤ n) : Lib.itoa n = Lib.decDigits n.toNat := if_neg (by omega)
theorem itoa_neg {n : Int} (h : n < 0) : Lib.itoa n = 45 :: Lib.decDigits n.natAbs := if_pos h
theorem itoa_le (n : Int) (h : In64 n) : (Lib.itoa n).length ≤ 21 := by
  obtain ⟨h1, h2⟩ := h
  have key : ∀ u : Nat, u ≤ 9223372036854775808 → (Lib.decDigits u).length ≤ 20 := by
    intro u hu
    by_cases hl : (Lib.decDigits u).length ≤ 20
    · exact hl
    · have hb := plainW_big (dec_plain u) 20 (by omega) (by decide)
      rw [(num_dec u).1] at hb
      have : (10 : Nat) ^ 20 = 100000000000000000000 := by decide
      omega
  by_cases hn : n < 0
  · rw [itoa_neg hn, List.length_cons]
    have := key n.natAbs (by omega)
    omega
  · rw [itoa_pos (by omega)]
    have := key n.toNat (by omega)
    omega
/-- what was written is read -/
theorem rI_itoa {n : Int} (h : In64 n) : rI (Lib.itoa n) = some n := by
  obtain ⟨h1, h2⟩ := h
  unfold rI
  by_cases hn : n < 0
  · rw [itoa_neg hn, if_pos (by rfl)]
    show (if plainW (Lib.decDigits n.natAbs) = true ∧ Lib.decDigits n.natAbs ≠ [48] ∧ num 0 (Lib.decDigits n.natAbs) ≤ 9223372036854775808 then some (-(num 0 (Lib.decDigits n.natAbs) : Int)) else none) = some n
    rw [(num_dec n.natAbs).1, if_pos]
    · congr 1
      omega
    · refine ⟨dec_plain _, ?_, by omega⟩
      intro e
      have := (num_dec n.natAbs).1
      rw [e] at this
      have e0 : num 0 [48] = 0 := rfl
      omega
  · rw [itoa_pos (by omega)]
    have hp := dec_plain n.toNat
    have hh : (Lib.decDigits n.toNat).head? ≠ some 45 := by
      cases hl : Lib.decDigits n.toNat with
      | nil => simp
      | cons c r =>
        rw [hl] at hp
        have := plainW_head hp
        intro e
        have e' : c = 45 := by simpa using e
        subst e'
        exact absurd this.1 (by decide)
    rw [if_neg hh, (num_dec n.toNat).1, if_pos ⟨hp, by omega⟩]
    congr 1
    omega
/-- what was read was written so -/
theorem itoa_rI {l : List UInt8} {m : Int} (h : rI l = some m) : Lib.itoa m = l := by
  unfold rI at h
  split at h
  · rename_i hh
    cases l with
    | nil => simp at hh
    | cons c r =>
      have hc : c = 45 := by simpa using hh
      subst hc
      split at h
      · rename_i h1
        obtain ⟨h1, h2, h3⟩ := h1
        have e : m = -(num 0 r : Int) := by
          injection h with h
          exact h.symm
        have hr : (45 :: r).tail = r := rfl
        rw [hr] at h1 h2
        have hz : num 0 r ≠ 0 := by
          intro e0
          have := dec_num h1
          rw [e0, dec_zero] at this
          exact h2 this.symm
        rw [e, itoa_neg (by omega), show (-(num 0 r : Int)).natAbs = num 0 r by omega, dec_num h1]
      · cases h
  · split at h
    · rename_i h1
      have e : m = (num 0 l : Int) := by
        injection h with h
        exact h.symm
      rw [e, itoa_pos (by omega), show ((num 0 l : Int)).toNat = num 0 l by omega, dec_num h1.1]
    · cases h
/-- the two readers of one word -/
theorem rU_of_rI {l : List UInt8} {m : Int} (h : rI l = some m) : rU l = if m < 0 then none else some m.toNat := by
  unfold rI at h
  unfold rU
  split at h
  · rename_i hh
    cases l with
    | nil => simp at hh
    | cons c r =>
      have hc : c = 45 := by simpa using hh
      subst hc
      rw [plain_minus, if_neg (by simp)]
      split at h
      · rename_i h1
        obtain ⟨h1, h2, h3⟩ := h1
        have hr : (45 :: r).tail = r := rfl
        rw [hr] at h h1 h2
        have hz : num 0 r ≠ 0 := by
          intro e0
          have := dec_num h1
          rw [e0, dec_zero] at this
          exact h2 this.symm
        have e : m = -(num 0 r : Int) := by
          injection h with h
          exact h.symm
        rw [if_pos (by omega)]
      · cases h
  · split at h
    · rename_i h1
      have e : m = (num 0 l : Int) := by
        injection h with h
        exact h.symm
      rw [if_pos ⟨h1.1, by omega⟩, if_neg (by omega)]
      congr 1
      omega
    · cases h

/-! as the code hands them back -/
def rIv (l : List UInt8) : Int := (rI l).getD 0
def rIc (l : List UInt8) : Int := if (rI l).isSome then 0 else 10
def rUv (l : List UInt8) : Int := ((rU l).getD 0 : Nat)
def rUc (l : List UInt8) : Int := if (rU l).isSome then 0 else 10
theorem rIv_in (l : List UInt8) : In64 (rIv l) := by
  unfold rIv
  cases h : rI l with
  | none => unfold In64; simp
  | some v => exact rI_bounds h
theorem rUv_in (l : List UInt8) : 0 ≤ rUv l ∧ rUv l ≤ 18446744073709551615 := by
  unfold rUv
  cases h : rU l with
  | none => simp
  | some v =>
    unfold rU at h
    split at h
    · rename_i h1
      injection h with h
      simp only [Option.getD_some]
      omega
    · cases h
end Go.Proofs.YtgpbgldnaongnaaGreatDoor.Pl

namespace Go.Proofs.YtgpbgldnaongnaaGreatDoor
open Go.RowKit
set_option maxRecDepth 20000

namespace Pl
theorem ba_ext {s t : ByteArray} (h : L s = L t) : s = t := by rw [← B_L s, ← B_L t, h]
theorem get_L (s : ByteArray) (k : Nat) (h : k < s.size) : (L s)[k]? = some (s[k]'h) := by
  rw [L_get s k h, List.getD_eq_getElem?_getD]
  have h' : k < (L s).length := by rw [L_length]; exact h
  rw [List.getElem?_eq_getElem h']
  rfl
theorem get_mem (s : ByteArray) (k : Nat) (h : k < s.size) : s[k]'h ∈ L s := List.mem_of_getElem? (get_L s k h)
theorem head_L (s : ByteArray) (h : 0 < s.size) : (L s).head? = some (s[0]'h) := by
  rw [← get_L s 0 h, List.head?_eq_getElem?]
theorem plain_no {l : List UInt8} {c : UInt8} (hm : c ∈ l) (hc : ¬ (48 ≤ c.toNat ∧ c.toNat ≤ 57)) : plainW l = false := by
  cases h : plainW l
  · rfl
  · exact absurd ((plainW_allD h).1 c hm) hc
theorem plain_zero {l : List UInt8} (h1 : l ≠ [48]) (h2 : l.head? = some 48) : plainW l = false := by
  cases h : plainW l
  · rfl
  · rcases plainW_cases h with e | ⟨c, r, e, hc, _⟩
    · exact absurd e h1
    · rw [e] at h2
      exact absurd (by simpa using h2) hc
theorem plain_yes {l : List UInt8} {c : UInt8} (h1 : l.head? = some c) (hc : c ≠ 48) (hd : allD l) : plainW l = true := by
  cases l with
  | nil => cases h1
  | cons x r =>
    have : x = c := by simpa using h1
    subst this
    exact plainW_of hc hd
theorem allD_get {s : ByteArray} (h : ∀ k, (hk : k < s.size) → 48 ≤ (s[k]'hk).toNat ∧ (s[k]'hk).toNat ≤ 57) : allD (L s) := by
  intro c hc
  obtain ⟨k, hk, e⟩ := List.mem_iff_getElem.1 hc
  have hk' : k < s.size := by rw [← L_length]; exact hk
  have h1 := get_L s k hk'
  rw [List.getElem?_eq_getElem hk] at h1
  injection h1 with h1
  rw [← e, h1]
  exact h k hk'
theorem toL_ne {s : ByteArray} {l : List UInt8} (h : L s ≠ l) : (s.toList == l) = false := by
  rw [ByteArray.toList_eq]
  exact beq_eq_false_iff_ne.2 h
theorem toL_eq {s : ByteArray} {l : List UInt8} (h : L s = l) : (s.toList == l) = true := by
  rw [ByteArray.toList_eq]
  exact beq_iff_eq.2 h
theorem toL_full {s : ByteArray} (h : 0 < s.size) : s.toList.isEmpty = false := by
  rw [ByteArray.toList_eq]
  have h1 := L_length s
  unfold L at h1
  cases h2 : s.data.toList with
  | nil =>
    rw [h2] at h1
    simp at h1
    omega
  | cons c r => rfl
theorem size_pos {s : ByteArray} (h : L s ≠ []) : 0 < s.size := by
  rw [← L_length]
  exact List.length_pos_iff.2 h
end Pl

theorem plain_walk (s : ByteArray) (w : World) (hs : s.size ≤ 140737488351232) :
    Calls Tryz.prog 87 #[.string s] w fun e w' => e = .returned (.bool (Pl.plainW (Pl.L s))) ∧ w = w' := by
  by_cases h48 : Pl.L s = [48]
  · obtain rfl : s = ⟨#[48]⟩ := Pl.ba_ext h48
    go_enter Tryz.func87, Tryz.ntmps87
    go_wp2_with fail
    go_ret
    exact ⟨Pl.ret1b (by rfl), rfl⟩
  · by_cases h0 : Pl.L s = []
    · obtain rfl : s = ⟨#[]⟩ := Pl.ba_ext h0
      go_enter Tryz.func87, Tryz.ntmps87
      go_wp2_with fail
      go_ret
      exact ⟨Pl.ret1b (by rfl), rfl⟩
    · have e48 := Pl.toL_ne h48
      have hsz := Pl.size_pos h0
      have he := Pl.toL_full hsz
      have H48 := Pl.hid h48
      clear h48 h0
      by_cases hc : (s[0]'hsz).toNat = 48
      · have HR := Pl.hid (Pl.plain_zero H48.out (by rw [Pl.head_L s hsz]; congr 1; exact UInt8.toNat_inj.1 hc))
        have hc' : (((s[0]'hsz).toNat : Int) == 48) = true := beq_iff_eq.2 (by omega)
        clear hc
        go_enter Tryz.func87, Tryz.ntmps87
        go_wp2_with fail
        go_ret
        exact ⟨Pl.ret1b HR.out.symm, rfl⟩
      · have hc' : (((s[0]'hsz).toNat : Int) == 48) = false := beq_eq_false_iff_ne.2 (by omega)
        have HC : Hid (s[0]'hsz ≠ 48) := fun e => hc (by rw [e]; rfl)
        clear hc
        go_enter Tryz.func87, Tryz.ntmps87
        go_wp2_with fail
        clear e48 he hc'
        go_loop [15] (fun i => ∃ k : Nat, k ≤ s.size ∧ i = .int .i64 k ∧ Hid (∀ j, (hj : j < s.size) → j < k → 48 ≤ (s[j]'hj).toNat ∧ (s[j]'hj).toNat ≤ 57)) (fun i => s.size - (intOf i).toNat)
        case atStart => exact ⟨0, Nat.zero_le _, rfl, fun j hj h => by omega⟩
        case round =>
          obtain ⟨k, hk, rfl, HK⟩ := hrel
          by_cases hlt : k < s.size
          · by_cases hd : 48 ≤ (s[k]'hlt).toNat ∧ (s[k]'hlt).toNat ≤ 57
            · obtain ⟨hd1, hd2⟩ := hd
              go_wp2_with fail
              go_round
              case rel => exact ⟨k + 1, by omega, by go_num, fun j hj h => by
                rcases Nat.lt_or_ge j k with h' | h'
                · exact HK.out j hj h'
                · obtain rfl : j = k := by omega
                  exact ⟨hd1, hd2⟩⟩
              case measure => simp [intOf]; omega
            · have HR := Pl.hid (Pl.plain_no (Pl.get_mem s k hlt) hd)
              rcases Nat.lt_or_ge (s[k]'hlt).toNat 48 with h1 | h1
              · clear hd
                go_wp2_with fail
                go_ret
                exact ⟨Pl.ret1b HR.out.symm, rfl⟩
              · have h2 : 57 < (s[k]'hlt).toNat := by omega
                clear hd
                go_wp2_with fail
                go_ret
                exact ⟨Pl.ret1b HR.out.symm, rfl⟩
          · have HR := Pl.hid (Pl.plain_yes (Pl.head_L s hsz) HC.out (Pl.allD_get fun j hj => HK.out j hj (by omega)))
            obtain rfl : k = s.size := by omega
            go_wp2_with fail
            go_ret
            exact ⟨Pl.ret1b HR.out.symm, rfl⟩
end Go.Proofs.YtgpbgldnaongnaaGreatDoor

namespace Go.Proofs.YtgpbgldnaongnaaGreatDoor
open Go.RowKit
set_option maxRecDepth 20000

namespace Pl
theorem dec_big {u : Nat} (h : ¬ u < 10) : Lib.decDigits u = Lib.decDigits (u / 10) ++ [UInt8.ofNat (48 + u % 10)] := by rw [Lib.decDigits, dif_neg h]
theorem dec_small {u : Nat} (h : u < 10) : Lib.decDigits u = [UInt8.ofNat (48 + u)] := by rw [Lib.decDigits, dif_pos h]
/-- one digit out of the ten -/
theorem ten_fin : ∀ k : Fin 10, (⟨#[48, 49, 50, 51, 52, 53, 54, 55, 56, 57]⟩ : ByteArray).extract k.val (k.val + 1) = B [UInt8.ofNat (48 + k.val)] := by decide +kernel
theorem ten_one {k : Nat} (h : k < 10) : (⟨#[48, 49, 50, 51, 52, 53, 54, 55, 56, 57]⟩ : ByteArray).extract k (k + 1) = B [UInt8.ofNat (48 + k)] := ten_fin ⟨k, h⟩
theorem ten_zero : (⟨#[48, 49, 50, 51, 52, 53, 54, 55, 56, 57]⟩ : ByteArray).extract 0 1 = B [UInt8.ofNat (48 + 0)] := ten_one (k := 0) (by decide)
theorem B_append (a b : List UInt8) : B a ++ B b = B (a ++ b) := by
  apply ba_ext
  rw [L_B]
  unfold L B
  rw [ByteArray.data_append]
  simp
theorem tmod_neg (u : Nat) : (-(u : Int)).tmod 10 = -((u % 10 : Nat) : Int) := by rw [Int.neg_tmod, Int.tmod_eq_emod_of_nonneg (by omega)]; omega
theorem tdiv_neg (u : Nat) : (-(u : Int)).tdiv 10 = -((u / 10 : Nat) : Int) := by rw [Int.neg_tdiv, Int.tdiv_eq_ediv_of_nonneg (by omega)]; omega
theorem tmod_pos (u : Nat) : ((u : Int)).tmod 10 = ((u % 10 : Nat) : Int) := by rw [Int.tmod_eq_emod_of_nonneg (by omega)]; omega
theorem tdiv_pos (u : Nat) : ((u : Int)).tdiv 10 = ((u / 10 : Nat) : Int) := by rw [Int.tdiv_eq_ediv_of_nonneg (by omega)]; omega
theorem dec_step {t acc : List UInt8} {u k : Nat} (h : t = Lib.decDigits u ++ acc) (hu : ¬ u < 10) (hk : k = u % 10) : t = Lib.decDigits (u / 10) ++ ([UInt8.ofNat (48 + k)] ++ acc) := by
  rw [h, dec_big hu, hk, List.append_assoc]
theorem dec_last {t acc : List UInt8} {u k : Nat} (h : t = Lib.decDigits u ++ acc) (hu : u < 10) (hk : k = u % 10) : [UInt8.ofNat (48 + k)] ++ acc = t := by
  rw [h, dec_small hu, hk, Nat.mod_eq_of_lt hu]
theorem dec_acc {n : Int} (hn : In64 n) {acc : List UInt8} {u : Nat} (h : Lib.decDigits n.natAbs = Lib.decDigits u ++ acc) : acc.length ≤ 21 := by
  have h1 := itoa_le n hn
  have h2 : (Lib.decDigits n.natAbs).length ≤ (Lib.itoa n).length := by
    by_cases h0 : n < 0
    · rw [itoa_neg h0, List.length_cons]
      omega
    · rw [itoa_pos (by omega), show n.natAbs = n.toNat by omega]
      exact Nat.le_refl _
  rw [h, List.length_append] at h2
  omega
end Pl

theorem ten_run (k : Nat) (h : k < 10) (w : World) : (Instr.slice 9 (.string ⟨#[48, 49, 50, 51, 52, 53, 54, 55, 56, 57]⟩) (some (.int .i64 (k : Int))) (some (.int .i64 ((k : Int) + 1))) none).run Tryz.prog w = .ok (.string (Pl.B [UInt8.ofNat (48 + k)])) w := by
  rw [run_slice_string w 9 _ .i64 .i64 (k : Int) ((k : Int) + 1) Tryz.underlying9 (by omega) (by omega) (by show _ ≤ (10 : Int); omega)]
  rw [← Pl.ten_one h]
  congr 3
end Go.Proofs.YtgpbgldnaongnaaGreatDoor

namespace Go.Proofs.YtgpbgldnaongnaaGreatDoor
open Go.RowKit
set_option maxRecDepth 20000

theorem Tryz.info_u8 : (Tryz.prog.info? 5).map (fun i => (i.zero, i.size, i.bytes)) = some (some (.int .u8 0), 1, 1) := by kernel_rfl

namespace Mm
open Pl

theorem below_drewN {B : Nat} (w : World) (n : Nat) : Below B w (w.drewN n) := ⟨rfl, rfl, rfl, Nat.le_refl _, fun _ _ => rfl⟩

/-- an owned row of bytes -/
def OwnB (w : World) (base : Nat) (v : Value) (l : List UInt8) : Prop := w.ownsRow base 5 1 v l.length (bytesV l)

theorem run_str (w : World) (base : Nat) (v : Value) (l : List UInt8) (h : OwnB w base v l) :
    (convert 23 9 v).run Tryz.prog w = .ok (.string (B l)) w := by
  rcases h.2 with ⟨rfl, h0⟩ | ⟨g, cap, cur, rfl, _, hg, _, _, _, htake⟩
  · rw [run_convert_bytes_nil w 23 5 Tryz.underlying23 Tryz.underlying5 0 0 9 Tryz.underlying9]
    rw [List.eq_nil_of_length_eq_zero h0]
    rfl
  · refine run_convert_bytes_back w 23 9 5 ⟨g, 0, none⟩ cap l Tryz.underlying23 Tryz.underlying5 Tryz.underlying9 ?_
    intro j hj
    refine h.cells (g := g) rfl j _ ?_
    simp [bytesV, byteV, List.getElem?_eq_getElem hj]

theorem wp_str {ops : Array Oper} {rest : List Oper} {o : Oper} {a : Act} {Q : Exit → Act → World → Prop} (w : World) (hgd : o.guard = none) (x : Operand) (ho : o.op = .convert 23 9 x)
    (base : Nat) (v : Value) (l : List UInt8) (hx : a.eval x = v) (h : OwnB w base v l) (hK : wpList Tryz.prog ops Q rest (a.put o.dst (.string (B l))) w) : wpList Tryz.prog ops Q (o :: rest) a w := by
  refine wpList_plain hgd fun K hK' => ?_
  have hrun := run_str w base v l h
  unfold Oper.wp
  simp [execOp, ho, hx, hrun, Result.andThen]
  exact hK' _ _ hK

/-- 'make([]byte, 0, n)' -/
theorem wp_make0 {ops : Array Oper} {rest : List Oper} {o : Oper} {a : Act} {Q : Exit → Act → World → Prop} (w : World) (hgd : o.guard = none) (x y : Operand) (ho : o.op = .makeSlice 23 x y)
    (C : Int) (hx : a.eval x = .int .i64 0) (hy : a.eval y = .int .i64 C) (h0 : 0 ≤ C) (h1 : C ≤ 281474976710656)
    (hK : ∀ v w', OwnB w' w.heap.size v [] → Below w.heap.size w w' → wpList Tryz.prog ops Q rest (a.put o.dst v) w') : wpList Tryz.prog ops Q (o :: rest) a w := by
  obtain ⟨i0, hi, hz0, hz1, hz2⟩ := info_parts Tryz.info_u8
  obtain ⟨n, rfl⟩ := Int.eq_ofNat_of_zero_le h0
  refine wpList_make_own w hgd x y 23 ho w.heap.size 5 i0 (.int .u8 0) 1 Tryz.underlying23 hi hz0 hz1 .i64 .i64 _ n hx hy rfl (by rw [hz2]; omega) (by unfold maxLen; omega) (Nat.le_refl _) ?_
  intro w' h1 h2
  exact hK _ _ h1 ((Below.refl _ _).grown h2 (Nat.le_refl _) (fun k hk => by cases hk))

/-- 'append(out, c)': the byte lies in the block that the walk has just laid -/
theorem wp_app1 {ops : Array Oper} {rest : List Oper} {o : Oper} {a : Act} {Q : Exit → Act → World → Prop} (w : World) (hgd : o.guard = none) (x y : Operand)
    (ho : o.op = .call { callee := .builtin .append, args := #[x, y], argTypes := #[23, 23] })
    (base : Nat) (v : Value) (l : List UInt8) (c : UInt8) (hx : a.eval x = v) (hy : a.eval y = .slice (some ⟨w.heap.size, 0, none⟩) 1 1) (h : OwnB w base v l) (hl : l.length < 140737488355328) (hbase : base ≤ w.heap.size)
    (hK : ∀ v' w', OwnB w' base v' (l ++ [c]) → Below base w w' → wpList Tryz.prog ops Q rest (a.put o.dst v') w') :
    wpList Tryz.prog ops Q (o :: rest) a (w.alloc (.cells #[.int .u8 c.toNat] 5)) := by
  obtain ⟨i0, hi, hz0, hz1, hz2⟩ := info_parts Tryz.info_u8
  refine wpList_append_own _ hgd x y 23 ho base 5 i0 (.int .u8 0) 1 1 Tryz.underlying23 hi hz0 hz1 hz2 rfl (by decide) v l.length (bytesV l) hx (h.alloc _) ⟨w.heap.size, 0, none⟩ 1 1 [byteV c] hy rfl ?_ ?_ ?_ ?_ ?_ ?_
  · intro j u hj
    match j, hj with
    | 0, hj =>
      simp at hj
      subst hj
      simp [Addr.add, byteV]
  · intro u hu
    simp at hu
    subst hu
    rfl
  · unfold maxLen; omega
  · omega
  · simp; omega
  · intro v' w' h1 h2 _
    refine hK v' w' (by unfold OwnB; rw [bytesV_append, List.length_append]; exact h1) (((Below.refl _ _).alloc hbase _).grown h2 (by simp; omega) (fun k hk => (h.lt k hk).1))
/-- 'append(out, c)', the byte as a number -/
theorem wp_appI {ops : Array Oper} {rest : List Oper} {o : Oper} {a : Act} {Q : Exit → Act → World → Prop} (w : World) (hgd : o.guard = none) (x y : Operand)
    (ho : o.op = .call { callee := .builtin .append, args := #[x, y], argTypes := #[23, 23] })
    (base : Nat) (v : Value) (l : List UInt8) (c : Int) (hx : a.eval x = v) (hy : a.eval y = .slice (some ⟨w.heap.size, 0, none⟩) 1 1) (h : OwnB w base v l) (hc0 : 0 ≤ c) (hc1 : c ≤ 255) (hl : l.length < 140737488355328) (hbase : base ≤ w.heap.size)
    (hK : ∀ v' w', OwnB w' base v' (l ++ [ofI c]) → Below base w w' → wpList Tryz.prog ops Q rest (a.put o.dst v') w') :
    wpList Tryz.prog ops Q (o :: rest) a (w.alloc (.cells #[.int .u8 c] 5)) := by
  have := ofI_nat hc0 hc1
  rw [← this]
  exact wp_app1 w hgd x y ho base v l (ofI c) hx hy h hl hbase hK

/-- '[]byte(s)': new memory that holds the text's bytes -/
theorem wp_tobytes {ops : Array Oper} {rest : List Oper} {o : Oper} {a : Act} {Q : Exit → Act → World → Prop} (w : World) (hgd : o.guard = none) (x : Operand) (ho : o.op = .convert 9 23 x)
    (s : ByteArray) (hx : a.eval x = .string s)
    (hK : ∀ c w', s.size ≤ c → w'.heap.size = w.heap.size + 1 → (∀ j, j < s.size → w'.cell? ⟨w.heap.size, j, none⟩ = some (.int .u8 (at_ (L s) j))) → (∀ j, j < s.size → w'.frozen? ⟨w.heap.size, j, none⟩ = false) → Below w.heap.size w w' →
      wpList Tryz.prog ops Q rest (a.put o.dst (.slice (some ⟨w.heap.size, 0, none⟩) s.size c)) w') : wpList Tryz.prog ops Q (o :: rest) a w := by
  refine wpList_plain hgd fun K hK' => ?_
  have hrun := run_bytes_of_string (P := Tryz.prog) w 9 23 5 s Tryz.underlying9 Tryz.underlying23 Tryz.underlying5
  unfold Oper.wp
  simp [execOp, ho, hx, hrun, Result.andThen]
  refine hK' _ _ (hK _ _ (grownCap_ge _ _ _ _) (by simp) ?_ ?_ (((Below.refl _ _).drew).alloc (by simp) _))
  · intro j hj
    have hj' : j < s.data.size := hj
    rw [show w.heap.size = w.drew.heap.size from rfl, World.cell?_alloc_mark, bytesRow_at s _ j hj']
    congr 1
    unfold at_
    have := L_get s j hj
    congr 2
    rw [← this]
    rfl
  · intro j hj
    rw [show w.heap.size = w.drew.heap.size from rfl, World.frozen?_alloc_mark]
    have : (bytesRow s (grownCap w s.size 0 5)).size = grownCap w s.size 0 5 := by
      have h1 : s.data.size = s.size := rfl
      have h2 := grownCap_ge w s.size 0 5
      unfold bytesRow
      rw [Array.size_append, Array.size_map, Array.size_replicate, h1]
      omega
    rw [this]
    have h2 := grownCap_ge w s.size 0 5
    simp
    omega
/-- block g is just these bytes -/
def BlkB (w : World) (g : Nat) (l : List UInt8) : Prop := w.heap[g]? = some (.cells (bytesV l).toArray 5 (0, 0))
theorem BlkB.lt {w : World} {g : Nat} {l : List UInt8} (h : BlkB w g l) : g < w.heap.size := (Array.getElem?_eq_some_iff.1 h).1
theorem BlkB.cell {w : World} {g : Nat} {l : List UInt8} (h : BlkB w g l) (i : Nat) (hi : i < l.length) : w.cell? ⟨g, i, none⟩ = some (.int .u8 (at_ l i)) := by
  rw [cell_of_row w g i _ _ _ h]
  simp [bytesV, byteV, at_, List.getElem?_eq_getElem hi, List.getD_eq_getElem?_getD]
theorem BlkB.frozen {w : World} {g : Nat} {l : List UInt8} (h : BlkB w g l) (i : Nat) : w.frozen? ⟨g, i, none⟩ = false := by
  unfold BlkB at h
  simp [World.frozen?, h]
theorem BlkB.own {w : World} {g base : Nat} {l : List UInt8} (h : BlkB w g l) (hb : base ≤ g) (hl : l.length ≤ maxLen) : OwnB w base (.slice (some ⟨g, 0, none⟩) l.length l.length) l :=
  ⟨by simp [bytesV], .inr ⟨g, l.length, _, rfl, hb, h, Nat.le_refl _, hl, by simp [bytesV], by rw [Nat.mul_one, ← bytesV_length l]; simp⟩⟩

/-- 'make([]byte, n)' -/
theorem wp_makeN {ops : Array Oper} {rest : List Oper} {o : Oper} {a : Act} {Q : Exit → Act → World → Prop} (w : World) (hgd : o.guard = none) (x y : Operand) (ho : o.op = .makeSlice 23 x y)
    (C : Int) (hx : a.eval x = .int .i64 C) (hy : a.eval y = .int .i64 C) (h0 : 0 ≤ C) (h1 : C ≤ 281474976710656)
    (hK : ∀ w', BlkB w' w.heap.size (List.replicate C.toNat 0) → w'.heap.size = w.heap.size + 1 → Below w.heap.size w w' → wpList Tryz.prog ops Q rest (a.put o.dst (.slice (some ⟨w.heap.size, 0, none⟩) C.toNat C.toNat)) w') : wpList Tryz.prog ops Q (o :: rest) a w := by
  obtain ⟨i0, hi, hz0, hz1, hz2⟩ := info_parts Tryz.info_u8
  refine wpList_plain hgd fun K hK' => ?_
  have hrun := run_make (P := Tryz.prog) w 23 5 i0 (.int .u8 0) Tryz.underlying23 hi hz0 .i64 .i64 C C h0 (Int.le_refl _) (by rw [hz2]; omega) (by omega)
  unfold Oper.wp
  simp [execOp, ho, hx, hy, hrun, Result.andThen]
  refine hK' _ _ (hK _ ?_ (by simp) ((Below.refl _ _).alloc (Nat.le_refl _) _))
  unfold BlkB
  rw [heap_alloc_new]
  congr 2
  rw [hz1, Nat.mul_one]
  apply Array.ext
  · simp [madeCells, bytesV]
  · intro i h2 h3
    simp [madeCells, bytesV, byteV, Value.cells]
    rw [Nat.mod_one]
    rfl

/-- 'copy(b[o:], s)', s a text -/
theorem wp_copystr {ops : Array Oper} {rest : List Oper} {op : Oper} {a : Act} {Q : Exit → Act → World → Prop} (w : World) (hgd : op.guard = none) (x y : Operand)
    (ho : op.op = .call { callee := .builtin .copy, args := #[x, y], argTypes := #[23, 9] }) (g o dl dc : Nat) (l : List UInt8) (s : ByteArray) (h : BlkB w g l)
    (hx : a.eval x = .slice (some ⟨g, o, none⟩) dl dc) (hy : a.eval y = .string s) (hfit : s.size ≤ dl) (hin : o + s.size ≤ l.length)
    (hK : ∀ w', BlkB w' g (spl l o (L s)) → w'.heap.size = w.heap.size → (∀ B, B ≤ g → Below B w w') → wpList Tryz.prog ops Q rest (a.put op.dst (goInt s.size)) w') : wpList Tryz.prog ops Q (op :: rest) a w := by
  obtain ⟨i0, hi, hz0, hz1, hz2⟩ := info_parts Tryz.info_u8
  have hn : Nat.min s.size dl = s.size := Nat.min_eq_left hfit
  have hst := run_storeCells_at Tryz.prog g o 5 (bytesV (L s)) 0 _ w h (by simp [bytesV, L_length]; omega) (bytesV_one _)
  have hmap : List.take s.size (List.map (fun b => Value.int .u8 (b.toNat : Int)) s.data.toList) = bytesV (L s) := by
    rw [List.take_of_length_le (by rw [List.length_map, Array.length_toList]; exact Nat.le_refl _)]
    rfl
  have hrun : (Builtin.copy_ #[23, 9] op.type #[.slice (some ⟨g, o, none⟩) dl dc, .string s]).run Tryz.prog w =
      .ok (goInt s.size) (w.setRow g ((bytesV l).take o ++ bytesV (L s) ++ (bytesV l).drop (o + (bytesV (L s)).length)).toArray) := by
    simp only [Nat.add_zero] at hst
    simp [Builtin.copy_, run_underlying Tryz.underlying23, sizeOf, typeInfo, hi, Builtin.lenOf, hn, Builtin.firstCells]
    rw [hmap, hst]
    simp
  refine wpList_plain hgd fun K hK' => ?_
  unfold Oper.wp execOp
  simp only [ho, resolve, invoke, builtin, Sem.run_bind, Sem.run_pure, Result.andThen_ok, List.map_toArray, List.map_cons, List.map_nil, hx, hy, hrun]
  refine hK' _ _ (hK _ ?_ (by simp [World.setRow]) (fun B hB => ⟨rfl, rfl, rfl, by simp [World.setRow], fun k hk => setRow_other w g k _ (by omega)⟩))
  unfold BlkB
  rw [setRow_heap w g _ _ _ _ h]
  simp [spl, bytesV]

/-- 'string(b)', b a whole block -/
theorem wp_strN {ops : Array Oper} {rest : List Oper} {o : Oper} {a : Act} {Q : Exit → Act → World → Prop} (w : World) (hgd : o.guard = none) (x : Operand) (ho : o.op = .convert 23 9 x)
    (g n c : Nat) (l : List UInt8) (h : BlkB w g l) (hx : a.eval x = .slice (some ⟨g, 0, none⟩) n c) (hn : l.length = n) (hK : wpList Tryz.prog ops Q rest (a.put o.dst (.string (B l))) w) : wpList Tryz.prog ops Q (o :: rest) a w := by
  subst hn
  refine wpList_plain hgd fun K hK' => ?_
  have hrun := run_convert_bytes_back w 23 9 5 ⟨g, 0, none⟩ c l Tryz.underlying23 Tryz.underlying5 Tryz.underlying9 (fun j hj => by
    have e : (⟨g, 0, none⟩ : Addr).add j = ⟨g, j, none⟩ := by unfold Addr.add; split <;> simp_all
    rw [e, h.cell j hj]
    simp [at_, List.getD_eq_getElem?_getD, List.getElem?_eq_getElem hj])
  unfold Oper.wp
  simp [execOp, ho, hx, hrun, Result.andThen]
  exact hK' _ _ hK

/-- 'b[i] = c' -/
theorem wp_storeB {ops : Array Oper} {rest : List Oper} {o : Oper} {a : Act} {Q : Exit → Act → World → Prop} (w : World) (hgd : o.guard = none) (x y : Operand) (ho : o.op = .store 5 x y)
    (g i : Nat) (l : List UInt8) (c : Int) (h : BlkB w g l) (hx : a.eval x = .pointer (some ⟨g, i, none⟩)) (hy : a.eval y = .int .u8 c) (h0 : 0 ≤ c) (h1 : c ≤ 255) (hi : i < l.length)
    (hK : ∀ w', BlkB w' g (l.set i (ofI c)) → w'.heap.size = w.heap.size → (∀ B, B ≤ g → Below B w w') → wpList Tryz.prog ops Q rest (a.put o.dst undef) w') : wpList Tryz.prog ops Q (o :: rest) a w := by
  refine wpList_plain hgd fun K hK' => ?_
  obtain ⟨i0, hi0, hz0, hz1, hz2⟩ := info_parts Tryz.info_u8
  have hst := run_storeCells_at Tryz.prog g i 5 [Value.int .u8 c] 0 _ w h (by simp [bytesV]; omega) (by intro v hv; simp at hv; subst hv; rfl)
  have hrun : (Instr.storeAt 5 (.pointer (some ⟨g, i, none⟩)) (.int .u8 c)).run Tryz.prog w =
      .ok () (w.setRow g ((bytesV l).take i ++ [Value.int .u8 c] ++ (bytesV l).drop (i + 1)).toArray) := by
    simp only [Nat.add_zero] at hst
    simp [Instr.storeAt, Instr.sureAddr, storeVar, sizeOf, typeInfo, hi0, hz1, Value.cells]
    rw [hst]
    simp
  unfold Oper.wp execOp
  simp only [ho, hx, hy, Sem.run_bind, Sem.run_pure, Result.andThen_ok, hrun]
  refine hK' _ _ (hK _ ?_ (by simp [World.setRow]) (fun B hB => ⟨rfl, rfl, rfl, by simp [World.setRow], fun k hk => setRow_other w g k _ (by omega)⟩))
  unfold BlkB
  rw [setRow_heap w g _ _ _ _ h]
  have hb : byteV (ofI c) = .int .u8 c := by
    unfold byteV
    rw [ofI_nat h0 h1]
  congr 3
  rw [List.set_eq_take_append_cons_drop]
  simp [bytesV, hi, hb]
end Mm
end Go.Proofs.YtgpbgldnaongnaaGreatDoor

namespace Go.Proofs.YtgpbgldnaongnaaGreatDoor
open Go.RowKit
set_option maxRecDepth 20000

namespace Pl
/-- what a digit of sixteen says; 16: it is none -/
def hexV (c : Int) : Int := if 48 ≤ c ∧ c ≤ 57 then c - 48 else if 97 ≤ c ∧ c ≤ 102 then c - 87 else if 65 ≤ c ∧ c ≤ 70 then c - 55 else 16
theorem hexV_bd (c : Int) : 0 ≤ hexV c ∧ hexV c ≤ 16 := by unfold hexV; (repeat' split) <;> omega
theorem hex_or_fin : ∀ x : Fin 16, ∀ y : Fin 16, bits BinOp.or IntKind.u8 ((x.val : Int) * 16) (y.val : Int) = (x.val : Int) * 16 + y.val := by decide +kernel
theorem hex_or (x y : Int) (x0 : 0 ≤ x) (x1 : x < 16) (y0 : 0 ≤ y) (y1 : y < 16) : bits BinOp.or IntKind.u8 (x * 16) y = x * 16 + y := by
  obtain ⟨a, rfl⟩ := Int.eq_ofNat_of_zero_le x0
  obtain ⟨b, rfl⟩ := Int.eq_ofNat_of_zero_le y0
  exact hex_or_fin ⟨a, by omega⟩ ⟨b, by omega⟩
def hexU (c : UInt8) : Int := hexV (c.toNat : Int)
/-- the byte behind a backslash -/
def esc (c : UInt8) : UInt8 := if c = 110 then 10 else if c = 114 then 13 else if c = 116 then 9 else c
/-- two digits of sixteen stand ahead -/
def two (l : List UInt8) : Bool := match l with
  | a :: b :: _ => decide (hexU a < 16) && decide (hexU b < 16)
  | _ => false
def twoV (l : List UInt8) : UInt8 := match l with
  | a :: b :: _ => ofI (hexU a * 16 + hexU b)
  | _ => 0
/-- a word between double quotes, behind the first: its bytes, and how many bytes it takes; by fuel -/
def dbl : Nat → List UInt8 → Option (List UInt8 × Nat)
  | 0, _ => none
  | _, [] => none
  | f + 1, c :: r =>
    if c = 34 then some ([], 1)
    else if c = 92 then
      match r with
      | [] => none
      | d :: r2 =>
        if d = 120 ∧ two r2 = true then (dbl f (r2.drop 2)).map fun p => (twoV r2 :: p.1, p.2 + 4)
        else (dbl f r2).map fun p => (esc d :: p.1, p.2 + 2)
    else (dbl f r).map fun p => (c :: p.1, p.2 + 1)
/-- a word between single quotes, behind the first -/
def sgl : Nat → List UInt8 → Option (List UInt8 × Nat)
  | 0, _ => none
  | _, [] => none
  | f + 1, c :: r =>
    if c = 39 then some ([], 1)
    else if c = 92 ∧ r.head? = some 39 then (sgl f (r.drop 1)).map fun p => (39 :: p.1, p.2 + 2)
    else (sgl f r).map fun p => (c :: p.1, p.2 + 1)
theorem drop_get (s : ByteArray) (i : Nat) (h : i < s.size) : (L s).drop i = s[i]'h :: (L s).drop (i + 1) := by
  have h' : i < (L s).length := by rw [L_length]; exact h
  rw [List.drop_eq_getElem_cons h']
  congr 1
theorem drop_end (s : ByteArray) (i : Nat) (h : s.size ≤ i) : (L s).drop i = [] := List.drop_eq_nil_iff.2 (by rw [L_length]; exact h)
end Pl

theorem hex_walk (c : Int) (w : World) (h0 : 0 ≤ c) (h1 : c ≤ 255) :
    Calls Tryz.prog 90 #[.int .u8 c] w fun e w' => e = .returned (.int .u8 (Pl.hexV c)) ∧ w = w' := by
  have HR : Hid (Pl.hexV c = if 48 ≤ c ∧ c ≤ 57 then c - 48 else if 97 ≤ c ∧ c ≤ 102 then c - 87 else if 65 ≤ c ∧ c ≤ 70 then c - 55 else 16) := rfl
  rcases (by omega : (48 ≤ c ∧ c ≤ 57) ∨ (97 ≤ c ∧ c ≤ 102) ∨ (65 ≤ c ∧ c ≤ 70) ∨ c < 48 ∨ (57 < c ∧ c < 65) ∨ (70 < c ∧ c < 97) ∨ 102 < c) with ⟨a, b⟩ | ⟨a, b⟩ | ⟨a, b⟩ | a | ⟨a, b⟩ | ⟨a, b⟩ | a
  all_goals
    go_enter Tryz.func90, Tryz.ntmps90
    go_wp2
    go_ret
    refine ⟨Pl.ret1i ?_, rfl⟩
    rw [HR.out]
    (repeat' split) <;> omega

theorem blank_walk (c : Int) (w : World) (h0 : 0 ≤ c) (h1 : c ≤ 255) :
    Calls Tryz.prog 71 #[.int .u8 c] w fun e w' => e = .returned (.bool (c == 32 || c == 9)) ∧ w = w' := by
  rcases Decidable.em (c = 32) with rfl | a
  · go_enter Tryz.func71, Tryz.ntmps71
    go_wp2
    go_ret
    exact ⟨rfl, rfl⟩
  · have e1 : (c == 32) = false := beq_eq_false_iff_ne.2 a
    go_enter Tryz.func71, Tryz.ntmps71
    go_wp2
    go_ret
    exact ⟨Pl.ret1b (by rw [e1]; rfl), rfl⟩
end Go.Proofs.YtgpbgldnaongnaaGreatDoor
