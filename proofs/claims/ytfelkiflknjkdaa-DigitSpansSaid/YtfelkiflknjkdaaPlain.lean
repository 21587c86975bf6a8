/- Plain laws on numbers of 64 bits: no Go in sight. No condition beyond those that stand in each law. -/
import Derived.WalkKit
namespace Go.Proofs.Ytfelkiflknjkdaa.Pl
open Go.RowKit

theorem ret1i {k : IntKind} {a b : Int} (h : a = b) : Ending.returned (.int k a) = .returned (.int k b) := by rw [h]
theorem ret1b {a b : Bool} (h : a = b) : Ending.returned (.bool a) = .returned (.bool b) := by rw [h]
theorem ret2ii {k l : IntKind} {a b c d : Int} (h : a = b) (h' : c = d) : Ending.returned (.tuple #[.int k a, .int l c]) = .returned (.tuple #[.int k b, .int l d]) := by rw [h, h']
theorem ret2ib {k : IntKind} {a b : Int} {c d : Bool} (h : a = b) (h' : c = d) : Ending.returned (.tuple #[.int k a, .bool c]) = .returned (.tuple #[.int k b, .bool d]) := by rw [h, h']
theorem hid {p : Prop} (h : p) : Hid p := h

def In64 (n : Int) : Prop := -9223372036854775808 ≤ n ∧ n ≤ 9223372036854775807

theorem wrap64_lo (n : Int) : -9223372036854775808 ≤ wrap64 n := by unfold wrap64; omega
theorem wrap64_hi (n : Int) : wrap64 n ≤ 9223372036854775807 := by unfold wrap64; omega

theorem bv_of_wrap (r : BitVec 64) : BitVec.ofInt 64 (IntKind.i64.wrap (r.toNat : Int)) = r := by
  apply BitVec.eq_of_toNat_eq
  rw [BitVec.toNat_ofInt, IntKind.wrap_i64]
  have h := r.isLt
  omega

theorem wrap_neg (r : BitVec 64) : IntKind.i64.wrap (r.toNat : Int) < 0 ↔ r.msb = true := by
  have h := r.isLt
  rw [IntKind.wrap_i64, BitVec.msb_eq_decide]
  simp only [decide_eq_true_eq]
  omega

theorem msb_of (a : Int) (h : In64 a) : (BitVec.ofInt 64 a).msb = decide (a < 0) := by
  obtain ⟨h1, h2⟩ := h
  rw [BitVec.msb_eq_toInt, BitVec.toInt_ofInt]
  have : a.bmod (2 ^ 64) = a := by
    rw [Int.bmod_def]; split <;> omega
  rw [this]

theorem over_iff (a b : Int) (ha : In64 a) (hb : In64 b) :
    bits BinOp.and IntKind.i64 (bits BinOp.xor IntKind.i64 a (wrap64 (a + b))) (bits BinOp.xor IntKind.i64 b (wrap64 (a + b))) < 0 ↔ ¬ In64 (a + b) := by
  have hs : In64 (wrap64 (a + b)) := ⟨wrap64_lo _, wrap64_hi _⟩
  have key : bits BinOp.and IntKind.i64 (bits BinOp.xor IntKind.i64 a (wrap64 (a + b))) (bits BinOp.xor IntKind.i64 b (wrap64 (a + b))) =
      IntKind.i64.wrap (((BitVec.ofInt 64 a ^^^ BitVec.ofInt 64 (wrap64 (a + b))) &&& (BitVec.ofInt 64 b ^^^ BitVec.ofInt 64 (wrap64 (a + b)))).toNat : Int) := by
    show IntKind.i64.wrap ((BitVec.ofInt 64 (IntKind.i64.wrap ((BitVec.ofInt 64 a ^^^ BitVec.ofInt 64 (wrap64 (a + b))).toNat : Int)) &&& BitVec.ofInt 64 (IntKind.i64.wrap ((BitVec.ofInt 64 b ^^^ BitVec.ofInt 64 (wrap64 (a + b))).toNat : Int))).toNat : Int) = _
    rw [bv_of_wrap, bv_of_wrap]
  rw [key, wrap_neg, BitVec.msb_and, BitVec.msb_xor, BitVec.msb_xor, msb_of a ha, msb_of b hb, msb_of _ hs]
  obtain ⟨h1, h2⟩ := ha
  obtain ⟨h3, h4⟩ := hb
  unfold In64 wrap64
  by_cases c1 : a < 0 <;> by_cases c2 : b < 0 <;> simp [c1, c2] <;> omega

/-- what Add tells: the sum, or 0 -/
def addV (a b : Int) : Int := if -9223372036854775808 ≤ a + b ∧ a + b ≤ 9223372036854775807 then a + b else 0
/-- and how it went -/
def addC (a b : Int) : Int := if -9223372036854775808 ≤ a + b ∧ a + b ≤ 9223372036854775807 then 0 else 11
theorem addV_in {a b : Int} (h : In64 (a + b)) : addV a b = a + b := if_pos h
theorem addV_out {a b : Int} (h : ¬ In64 (a + b)) : addV a b = 0 := if_neg h
theorem addC_in {a b : Int} (h : In64 (a + b)) : addC a b = 0 := if_pos h
theorem addC_out {a b : Int} (h : ¬ In64 (a + b)) : addC a b = 11 := if_neg h

/-- a number below 0 counts from the end -/
def cnt (i n : Int) : Int := if i < 0 then i + n else i
theorem cnt_neg {i n : Int} (h : i < 0) : cnt i n = i + n := if_pos h
theorem cnt_pos {i n : Int} (h : 0 ≤ i) : cnt i n = i := if_neg (by omega)
theorem cnt_in {i n : Int} (h : In64 i) (h0 : 0 ≤ n) (h1 : n ≤ 9223372036854775807) : -9223372036854775808 ≤ cnt i n ∧ cnt i n ≤ 9223372036854775807 := by
  obtain ⟨h1, h2⟩ := h
  unfold cnt; split <;> omega
def nn (n : Int) : Int := if n < 0 then 0 else n
theorem nn_bd (n : Int) (h : n ≤ 9223372036854775807) : 0 ≤ nn n ∧ nn n ≤ 9223372036854775807 := by unfold nn; split <;> omega
/-- where a stretch begins and ends -/
def spF (a b n : Int) : Int := if (if cnt a (nn n) < 0 then 0 else cnt a (nn n)) ≤ (if nn n - 1 < cnt b (nn n) then nn n - 1 else cnt b (nn n)) then (if cnt a (nn n) < 0 then 0 else cnt a (nn n)) else 0
def spT (a b n : Int) : Int := if (if cnt a (nn n) < 0 then 0 else cnt a (nn n)) ≤ (if nn n - 1 < cnt b (nn n) then nn n - 1 else cnt b (nn n)) then (if nn n - 1 < cnt b (nn n) then nn n - 1 else cnt b (nn n)) + 1 else 0
def plV (i n : Int) : Int := if 0 ≤ cnt i (nn n) ∧ cnt i (nn n) < nn n then cnt i (nn n) else 0
def plB (i n : Int) : Bool := decide (0 ≤ cnt i (nn n) ∧ cnt i (nn n) < nn n)
end Go.Proofs.Ytfelkiflknjkdaa.Pl
