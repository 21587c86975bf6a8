/- Plain laws on numbers of 64 bits: no Go in sight. No condition beyond those that stand in each law. -/
import Derived.WalkKit
namespace Go.Proofs.YtakldjdohgmeiaaDoor.Pl
open Go.RowKit

theorem ret1i {k : IntKind} {a b : Int} (h : a = b) : Ending.returned (.int k a) = .returned (.int k b) := by rw [h]
theorem ret1b {a b : Bool} (h : a = b) : Ending.returned (.bool a) = .returned (.bool b) := by rw [h]
theorem ret1s {a b : ByteArray} (h : a = b) : Ending.returned (.string a) = .returned (.string b) := by rw [h]
theorem ret2si {k : IntKind} {a b : ByteArray} {c d : Int} (h : a = b) (h' : c = d) : Ending.returned (.tuple #[.string a, .int k c]) = .returned (.tuple #[.string b, .int k d]) := by rw [h, h']
theorem ret3sii {k l : IntKind} {a b : ByteArray} {c d e f : Int} (h : a = b) (h' : c = d) (h'' : e = f) : Ending.returned (.tuple #[.string a, .int k c, .int l e]) = .returned (.tuple #[.string b, .int k d, .int l f]) := by rw [h, h', h'']
theorem ret2ii {k l : IntKind} {a b c d : Int} (h : a = b) (h' : c = d) : Ending.returned (.tuple #[.int k a, .int l c]) = .returned (.tuple #[.int k b, .int l d]) := by rw [h, h']
theorem ret2ib {k : IntKind} {a b : Int} {c d : Bool} (h : a = b) (h' : c = d) : Ending.returned (.tuple #[.int k a, .bool c]) = .returned (.tuple #[.int k b, .bool d]) := by rw [h, h']
theorem hid {p : Prop} (h : p) : Hid p := h

def In64 (n : Int) : Prop := -9223372036854775808 ≤ n ∧ n ≤ 9223372036854775807

theorem wrap64_lo (n : Int) : -9223372036854775808 ≤ wrap64 n := by unfold wrap64; omega
theorem wrap64_hi (n : Int) : wrap64 n ≤ 9223372036854775807 := by unfold wrap64; omega

theorem bv_of_wrap (r : BitVec 64) : BitVec.ofInt 64 (IntKind.i64.wrap (r.toNat : Int)) = r := by
  apply BitVec.eq_of_toNat_eq
  rw [BitVec.toNat_ofInt, IntKind.wrap_i64]
  have h := r.isLt
  omega

theorem wrap_neg (r : BitVec 64) : IntKind.i64.wrap (r.toNat : Int) < 0 ↔ r.msb = true := by
  have h := r.isLt
  rw [IntKind.wrap_i64, BitVec.msb_eq_decide]
  simp only [decide_eq_true_eq]
  omega

theorem msb_of (a : Int) (h : In64 a) : (BitVec.ofInt 64 a).msb = decide (a < 0) := by
  obtain ⟨h1, h2⟩ := h
  rw [BitVec.msb_eq_toInt, BitVec.toInt_ofInt]
  have : a.bmod (2 ^ 64) = a := by
    rw [Int.bmod_def]; split <;> omega
  rw [this]

theorem over_iff (a b : Int) (ha : In64 a) (hb : In64 b) :
    bits BinOp.and IntKind.i64 (bits BinOp.xor IntKind.i64 a (wrap64 (a + b))) (bits BinOp.xor IntKind.i64 b (wrap64 (a + b))) < 0 ↔ ¬ In64 (a + b) := by
  have hs : In64 (wrap64 (a + b)) := ⟨wrap64_lo _, wrap64_hi _⟩
  have key : bits BinOp.and IntKind.i64 (bits BinOp.xor IntKind.i64 a (wrap64 (a + b))) (bits BinOp.xor IntKind.i64 b (wrap64 (a + b))) =
      IntKind.i64.wrap (((BitVec.ofInt 64 a ^^^ BitVec.ofInt 64 (wrap64 (a + b))) &&& (BitVec.ofInt 64 b ^^^ BitVec.ofInt 64 (wrap64 (a + b)))).toNat : Int) := by
    show IntKind.i64.wrap ((BitVec.ofInt 64 (IntKind.i64.wrap ((BitVec.ofInt 64 a ^^^ BitVec.ofInt 64 (wrap64 (a + b))).toNat : Int)) &&& BitVec.ofInt 64 (IntKind.i64.wrap ((BitVec.ofInt 64 b ^^^ BitVec.ofInt 64 (wrap64 (a + b))).toNat : Int))).toNat : Int) = _
    rw [bv_of_wrap, bv_of_wrap]
  rw [key, wrap_neg, BitVec.msb_and, BitVec.msb_xor, BitVec.msb_xor, msb_of a ha, msb_of b hb, msb_of _ hs]
  obtain ⟨h1, h2⟩ := ha
  obtain ⟨h3, h4⟩ := hb
  unfold In64 wrap64
  by_cases c1 : a < 0 <;> by_cases c2 : b < 0 <;> simp [c1, c2] <;> omega

/-- what Add tells: the sum, or 0 -/
def addV (a b : Int) : Int := if -9223372036854775808 ≤ a + b ∧ a + b ≤ 9223372036854775807 then a + b else 0
/-- and how it went -/
def addC (a b : Int) : Int := if -9223372036854775808 ≤ a + b ∧ a + b ≤ 9223372036854775807 then 0 else 11
theorem addV_in {a b : Int} (h : In64 (a + b)) : addV a b = a + b := if_pos h
theorem addV_out {a b : Int} (h : ¬ In64 (a + b)) : addV a b = 0 := if_neg h
theorem addC_in {a b : Int} (h : In64 (a + b)) : addC a b = 0 := if_pos h
theorem addC_out {a b : Int} (h : ¬ In64 (a + b)) : addC a b = 11 := if_neg h

/-- a number below 0 counts from the end -/
def cnt (i n : Int) : Int := if i < 0 then i + n else i
theorem cnt_neg {i n : Int} (h : i < 0) : cnt i n = i + n := if_pos h
theorem cnt_pos {i n : Int} (h : 0 ≤ i) : cnt i n = i := if_neg (by omega)
theorem cnt_in {i n : Int} (h : In64 i) (h0 : 0 ≤ n) (h1 : n ≤ 9223372036854775807) : -9223372036854775808 ≤ cnt i n ∧ cnt i n ≤ 9223372036854775807 := by
  obtain ⟨h1, h2⟩ := h
  unfold cnt; split <;> omega
def nn (n : Int) : Int := if n < 0 then 0 else n
theorem nn_bd (n : Int) (h : n ≤ 9223372036854775807) : 0 ≤ nn n ∧ nn n ≤ 9223372036854775807 := by unfold nn; split <;> omega
/-- where a stretch begins and ends -/
def spF (a b n : Int) : Int := if (if cnt a (nn n) < 0 then 0 else cnt a (nn n)) ≤ (if nn n - 1 < cnt b (nn n) then nn n - 1 else cnt b (nn n)) then (if cnt a (nn n) < 0 then 0 else cnt a (nn n)) else 0
def spT (a b n : Int) : Int := if (if cnt a (nn n) < 0 then 0 else cnt a (nn n)) ≤ (if nn n - 1 < cnt b (nn n) then nn n - 1 else cnt b (nn n)) then (if nn n - 1 < cnt b (nn n) then nn n - 1 else cnt b (nn n)) + 1 else 0
def plV (i n : Int) : Int := if 0 ≤ cnt i (nn n) ∧ cnt i (nn n) < nn n then cnt i (nn n) else 0
def plB (i n : Int) : Bool := decide (0 ≤ cnt i (nn n) ∧ cnt i (nn n) < nn n)

/-! texts as lists of bytes -/
def B (l : List UInt8) : ByteArray := ⟨l.toArray⟩
def L (s : ByteArray) : List UInt8 := s.data.toList
theorem L_B (l : List UInt8) : L (B l) = l := by simp [L, B]
theorem B_L (s : ByteArray) : B (L s) = s := by cases s; simp [L, B]
theorem L_length (s : ByteArray) : (L s).length = s.size := by unfold L; rw [Array.length_toList]; rfl
theorem B_size (l : List UInt8) : (B l).size = l.length := by rw [← L_length, L_B]
theorem B_congr {a b : List UInt8} (h : a = b) : B a = B b := by rw [h]
theorem L_get (s : ByteArray) (k : Nat) (h : k < s.size) : s[k] = (L s).getD k 0 := by
  have h' : k < s.data.toList.length := by rw [Array.length_toList]; exact h
  unfold L
  rw [List.getD_eq_getElem?_getD, List.getElem?_eq_getElem h', Option.getD_some, Array.getElem_toList]
  rfl
/-- the byte at a place, as a number; 0 behind the end -/
def at_ (l : List UInt8) (i : Nat) : Int := ((l.getD i 0).toNat : Int)
theorem at_in (s : ByteArray) (k : Nat) (h : k < s.size) : ((s[k]'h).toNat : Int) = at_ (L s) k := by unfold at_; rw [L_get]
theorem at_out (l : List UInt8) (k : Nat) (h : l.length ≤ k) : at_ l k = 0 := by unfold at_; rw [List.getD_eq_getElem?_getD, List.getElem?_eq_none h]; rfl
theorem at_bd (l : List UInt8) (k : Nat) : 0 ≤ at_ l k ∧ at_ l k ≤ 255 := by
  unfold at_
  have := (l.getD k 0).toNat_lt
  omega

/-- a stretch of a list -/
def slc (l : List UInt8) (f t : Nat) : List UInt8 := (l.drop f).take (t - f)
theorem extract_B (s : ByteArray) (f t : Nat) : s.extract f t = B (slc (L s) f t) := by
  obtain ⟨⟨l⟩⟩ := s
  rw [ByteArray.extract_mk]
  rfl
/-- where a stretch of n places begins and ends, as places -/
def sF (a b : Int) (n : Nat) : Nat := (spF a b n).toNat
def sT (a b : Int) (n : Nat) : Nat := (spT a b n).toNat
theorem sFT (a b : Int) (n : Nat) : sF a b n ≤ sT a b n ∧ sT a b n ≤ n ∧ spF a b n = (sF a b n : Int) ∧ spT a b n = (sT a b n : Int) := by
  have h : nn (n : Int) = n := if_neg (by omega)
  unfold sF sT
  have h1 : 0 ≤ spF a b n ∧ spF a b n ≤ spT a b n ∧ spT a b n ≤ n := by
    unfold spF spT
    rw [h]
    split <;> (repeat' split) <;> omega
  omega
theorem ret2sn {k l : IntKind} {a b c d : Int} (h : a = b) (h' : c = d) : Ending.returned (.tuple #[.int k a, .int l c]) = .returned (.tuple #[.int k b, .int l d]) := by rw [h, h']
/-- Slice -/
def slcL (l : List UInt8) (a b : Int) : List UInt8 := slc l (sF a b l.length) (sT a b l.length)
theorem slcL_eq (s : ByteArray) (a b : Int) : s.extract (sF a b s.size) (sT a b s.size) = B (slcL (L s) a b) := by
  rw [extract_B]; unfold slcL; rw [L_length]
theorem slcL_eq' (s : ByteArray) (a b : Int) : slc (L s) (sF a b s.size) (sT a b s.size) = slcL (L s) a b := by
  unfold slcL; rw [L_length]
theorem slc_length (l : List UInt8) (f t : Nat) (h1 : f ≤ t) (h2 : t ≤ l.length) : (slc l f t).length = t - f := by unfold slc; rw [List.length_take, List.length_drop]; omega
theorem slc_snoc (l : List UInt8) (f t : Nat) (h1 : f ≤ t) (h2 : t < l.length) : slc l f (t + 1) = slc l f t ++ [l.getD t 0] := by
  unfold slc
  have hd : t - f < (l.drop f).length := by rw [List.length_drop]; omega
  rw [show t + 1 - f = (t - f) + 1 by omega, List.take_succ_eq_append_getElem hd]
  congr 2
  rw [List.getElem_drop, List.getD_eq_getElem?_getD, List.getElem?_eq_getElem (by omega : t < l.length), Option.getD_some]
  congr 1
  omega
theorem slc_nil (l : List UInt8) (f : Nat) : slc l f f = [] := by unfold slc; simp
theorem slcL_le (s : ByteArray) (a b : Int) : (slcL (L s) a b).length ≤ s.size := by
  unfold slcL slc
  rw [List.length_take, List.length_drop, L_length]
  omega
/-! bits -/
def bitL (l : List UInt8) (i : Nat) : Int := at_ l (i / 8) / 2 ^ (7 - i % 8) % 2
theorem bitL_01 (l : List UInt8) (i : Nat) : bitL l i = 0 ∨ bitL l i = 1 := by unfold bitL; omega
/-- the bit within its byte -/
def mskN (m : Nat) : Nat := 128 / 2 ^ m
def msk (m : Nat) : Int := (mskN m : Int)
theorem msk_eq (m : Nat) : (128 : Int) / 2 ^ m = msk m := by unfold msk mskN; rw [Int.natCast_ediv, Int.natCast_pow]; rfl
theorem and_fin : ∀ x : Fin 256, ∀ m : Fin 8, (bits BinOp.and IntKind.u8 (x.val : Int) (msk m.val) == 0) = decide ((x.val : Int) / 2 ^ (7 - m.val) % 2 = 0) := by decide +kernel
theorem and_msk (x : Int) (h0 : 0 ≤ x) (h1 : x ≤ 255) (m : Nat) (hm : m < 8) : (bits BinOp.and IntKind.u8 x (msk m) == 0) = decide (x / 2 ^ (7 - m) % 2 = 0) := by
  obtain ⟨n, rfl⟩ := Int.eq_ofNat_of_zero_le h0
  exact and_fin ⟨n, by omega⟩ ⟨m, hm⟩
theorem half_bd (c : Int) (h0 : 0 ≤ c) (h1 : c ≤ 255) (k : Nat) : 0 ≤ c / 2 ^ k ∧ c / 2 ^ k ≤ 255 := by
  have hp : (0 : Int) < 2 ^ k := Int.pow_pos (by decide)
  refine ⟨Int.ediv_nonneg h0 (by omega), ?_⟩
  exact Int.le_trans (Int.ediv_le_self _ h0) h1
theorem half_half (c : Int) (k : Nat) : c / 2 ^ k / 2 = c / 2 ^ (k + 1) := by
  rw [Int.pow_succ, Int.ediv_ediv_of_nonneg (Int.le_of_lt (Int.pow_pos (by decide)))]
theorem half_zero (c : Int) : c / 2 ^ 0 = c := by simp
def byteV (b : UInt8) : Value := .int .u8 b.toNat
def bytesV (l : List UInt8) : List Value := l.map byteV
theorem bytesV_length (l : List UInt8) : (bytesV l).length = l.length := by simp [bytesV]
theorem bytesV_append (l m : List UInt8) : bytesV (l ++ m) = bytesV l ++ bytesV m := by simp [bytesV]
theorem bytesV_one (l : List UInt8) : ∀ u ∈ bytesV l, u.oneCell' = true := by
  intro u hu
  simp only [bytesV, List.mem_map] at hu
  obtain ⟨b, _, rfl⟩ := hu
  rfl
theorem take_snoc (l : List UInt8) (k : Nat) (h : k < l.length) : l.take (k + 1) = l.take k ++ [l.getD k 0] := by
  rw [List.take_succ_eq_append_getElem h, List.getD_eq_getElem?_getD, List.getElem?_eq_getElem h, Option.getD_some]
/-- a number as a byte -/
def ofI (x : Int) : UInt8 := UInt8.ofNat x.toNat
theorem ofI_nat {x : Int} (h0 : 0 ≤ x) (h1 : x ≤ 255) : ((ofI x).toNat : Int) = x := by
  unfold ofI
  rw [UInt8.toNat_ofNat']
  omega
theorem ofI_byte (c : UInt8) : ofI (c.toNat : Int) = c := by
  unfold ofI
  rw [Int.toNat_natCast]
  exact UInt8.ofNat_toNat
theorem ofI_at (l : List UInt8) (k : Nat) : ofI (at_ l k) = l.getD k 0 := ofI_byte _
theorem at_set (l : List UInt8) (k : Nat) (c : UInt8) (h : k < l.length) : at_ (l.set k c) k = (c.toNat : Int) := by
  unfold at_
  rw [List.getD_eq_getElem?_getD, List.getElem?_set, if_pos rfl, if_pos h]
  rfl
/-- a list with another one laid over it -/
def spl (l : List UInt8) (o : Nat) (m : List UInt8) : List UInt8 := l.take o ++ m ++ l.drop (o + m.length)
theorem spl_length (l m : List UInt8) (o : Nat) (h : o + m.length ≤ l.length) : (spl l o m).length = l.length := by
  unfold spl
  simp only [List.length_append, List.length_take, List.length_drop]
  omega
theorem spl_getD (l m : List UInt8) (o i : Nat) (h : o + m.length ≤ l.length) : (spl l o m).getD i 0 = if o ≤ i ∧ i < o + m.length then m.getD (i - o) 0 else l.getD i 0 := by
  unfold spl
  simp only [List.getD_eq_getElem?_getD, List.append_assoc, List.getElem?_append, List.length_take, List.getElem?_take, List.getElem?_drop]
  have e : min o l.length = o := by omega
  rw [e]
  by_cases h1 : i < o
  · rw [if_pos h1, if_pos h1, if_neg (by omega)]
  · rw [if_neg h1]
    by_cases h2 : i < o + m.length
    · rw [if_pos (by omega), if_pos (by omega)]
    · rw [if_neg (by omega), if_neg (by omega)]
      congr 2
      omega
theorem list_ext0 {l m : List UInt8} (h : l.length = m.length) (hg : ∀ i, i < l.length → l.getD i 0 = m.getD i 0) : l = m := by
  apply List.ext_getElem h
  intro i h1 h2
  have := hg i h1
  simpa [List.getD_eq_getElem?_getD, List.getElem?_eq_getElem h1, List.getElem?_eq_getElem h2] using this
/-- a text, filled with bytes 0 to at least so many -/
def filL (l : List UInt8) (n : Nat) : List UInt8 := l ++ List.replicate (n - l.length) 0
theorem filL_length (l : List UInt8) (n : Nat) : (filL l n).length = max l.length n := by unfold filL; simp; omega
theorem filL_getD (l : List UInt8) (n i : Nat) : (filL l n).getD i 0 = l.getD i 0 := by
  unfold filL
  simp only [List.getD_eq_getElem?_getD, List.getElem?_append, List.getElem?_replicate]
  by_cases h : i < l.length
  · rw [if_pos h]
  · rw [if_neg h, List.getElem?_eq_none (by omega)]
    split <;> rfl
theorem fil_spl (l : List UInt8) (m n : Nat) (h : l.length ≤ m) (hm : m = max l.length n) : spl (List.replicate m 0) 0 l = filL l n := by
  apply list_ext0
  · rw [spl_length _ _ _ (by simp; omega), filL_length]
    simp [hm]
  · intro i _
    rw [spl_getD _ _ _ _ (by simp; omega), filL_getD]
    split
    · rw [Nat.sub_zero]
    · rename_i hc
      simp only [List.getD_eq_getElem?_getD, List.getElem?_replicate]
      rw [List.getElem?_eq_none (by omega : l.length ≤ i)]
      split <;> rfl
end Go.Proofs.YtakldjdohgmeiaaDoor.Pl
