/- Plain laws for patch: bits, texts laid over one another. No Go in sight. -/
import Derived.Test.YtfelkiflknjkdaaPlain
import Derived.Lib.BitFns
namespace Go.Proofs.Ytfelkiflknjkdaa.Pl
open Go.RowKit

def bitV (l : List UInt8) (i : Int) : Int := if 0 ≤ i ∧ i < 1073741824 then bitL l i.toNat else 0
def bitC (i : Int) : Int := if 0 ≤ i ∧ i < 1073741824 then 0 else 3
theorem bitV_in {l : List UInt8} {i : Int} (h : 0 ≤ i ∧ i < 1073741824) : bitV l i = bitL l i.toNat := if_pos h
theorem bitC_in {i : Int} (h : 0 ≤ i ∧ i < 1073741824) : bitC i = 0 := if_pos h
theorem bitV_out {l : List UInt8} {i : Int} (h : ¬ (0 ≤ i ∧ i < 1073741824)) : bitV l i = 0 := if_neg h
theorem bitC_out {i : Int} (h : ¬ (0 ≤ i ∧ i < 1073741824)) : bitC i = 3 := if_neg h
theorem bitL_far (l : List UInt8) (k : Nat) (h : l.length ≤ k / 8) : bitL l k = 0 := by
  unfold bitL
  rw [at_out l (k / 8) h, Int.zero_ediv]
  rfl
/-- the test of a byte under its mask -/
theorem bitL_and (l : List UInt8) (k : Nat) : (bits BinOp.and IntKind.u8 (at_ l (k / 8)) (msk (k % 8)) == 0) = decide (bitL l k = 0) := by
  obtain ⟨h0, h1⟩ := at_bd l (k / 8)
  exact and_msk _ h0 h1 (k % 8) (by omega)
theorem bitL_andI (l : List UInt8) (i : Int) (h0 : 0 ≤ i) : (bits BinOp.and IntKind.u8 (at_ l (i / 8).toNat) (msk (i % 8).toNat) == 0) = decide (bitL l i.toNat = 0) := by
  rw [show (i / 8).toNat = i.toNat / 8 by omega, show (i % 8).toNat = i.toNat % 8 by omega]
  exact bitL_and l i.toNat
theorem bit_yes {l : List UInt8} {i x : Int} (h0 : 0 ≤ i) (hx : x = at_ l (i / 8).toNat) (h : (bits BinOp.and IntKind.u8 x (msk (i % 8).toNat) != 0) = true) : bitL l i.toNat = 1 := by
  have hb := bitL_andI l i h0
  rw [← hx] at hb
  rcases bitL_01 l i.toNat with e | e
  · rw [bne, hb, e] at h; simp at h
  · exact e
theorem bit_no {l : List UInt8} {i x : Int} (h0 : 0 ≤ i) (hx : x = at_ l (i / 8).toNat) (h : (bits BinOp.and IntKind.u8 x (msk (i % 8).toNat) != 0) = false) : bitL l i.toNat = 0 := by
  have hb := bitL_andI l i h0
  rw [← hx] at hb
  rcases bitL_01 l i.toNat with e | e
  · exact e
  · rw [bne, hb, e] at h; simp at h
theorem bit_farI {l : List UInt8} {i : Int} (h0 : 0 ≤ i) (h : l.length ≤ (i / 8).toNat) : bitL l i.toNat = 0 := bitL_far l _ (by omega)
/-- Join -/
def joinS (s v : ByteArray) : ByteArray := if 1048576 < (s.size : Int) + (v.size : Int) then B [] else s ++ v
def joinC (s v : ByteArray) : Int := if 1048576 < (s.size : Int) + (v.size : Int) then 2 else 0
theorem B_nil : B [] = { data := #[] } := rfl
/-- how many ones: of a byte, of a text -/
def ones8 (c : Int) : Int := c % 2 + c / 2 % 2 + c / 4 % 2 + c / 8 % 2 + c / 16 % 2 + c / 32 % 2 + c / 64 % 2 + c / 128 % 2
def onesT (l : List UInt8) : Nat → Int
  | 0 => 0
  | k + 1 => onesT l k + ones8 (at_ l k)
def bitsT (l : List UInt8) : Nat → Int
  | 0 => 0
  | i + 1 => bitsT l i + bitL l i
theorem bitsT_bd (l : List UInt8) (i : Nat) : 0 ≤ bitsT l i ∧ bitsT l i ≤ i := by
  induction i with
  | zero => simp [bitsT]
  | succ i ih => have := bitL_01 l i; simp only [bitsT]; omega
theorem bitL_at (l : List UInt8) (k j : Nat) (hj : j < 8) : bitL l (8 * k + j) = at_ l k / 2 ^ (7 - j) % 2 := by
  unfold bitL
  rw [show (8 * k + j) / 8 = k by omega, show (8 * k + j) % 8 = j by omega]
theorem bitsT_eq (l : List UInt8) (k : Nat) : bitsT l (8 * k) = onesT l k := by
  induction k with
  | zero => rfl
  | succ k ih =>
    have e : bitsT l (8 * (k + 1)) = bitsT l (8 * k) + bitL l (8 * k + 0) + bitL l (8 * k + 1) + bitL l (8 * k + 2) + bitL l (8 * k + 3) + bitL l (8 * k + 4) + bitL l (8 * k + 5) + bitL l (8 * k + 6) + bitL l (8 * k + 7) := rfl
    rw [e, ih, bitL_at _ _ _ (by decide), bitL_at _ _ _ (by decide), bitL_at _ _ _ (by decide), bitL_at _ _ _ (by decide), bitL_at _ _ _ (by decide), bitL_at _ _ _ (by decide), bitL_at _ _ _ (by decide), bitL_at _ _ _ (by decide)]
    simp only [onesT, ones8]
    simp
    omega
theorem onesT_bd (l : List UInt8) (k : Nat) : 0 ≤ onesT l k ∧ onesT l k ≤ 8 * k := by
  have := bitsT_bd l (8 * k)
  rw [bitsT_eq] at this
  omega
theorem ones_fin : ∀ x : Fin 256, Lib.onesCount x.val = ones8 (x.val : Int) := by decide +kernel
theorem ones_byte (c : Int) (h0 : 0 ≤ c) (h1 : c ≤ 255) : (Lib.onesCount c.toNat : Int) = ones8 c := by
  obtain ⟨n, rfl⟩ := Int.eq_ofNat_of_zero_le h0
  exact ones_fin ⟨n, by omega⟩
theorem ones8_bd (c : Int) : 0 ≤ ones8 c ∧ ones8 c ≤ 8 := by unfold ones8; omega
/-- Ones -/
def onesL (l : List UInt8) (a b : Int) : Int := onesT (slcL l a b) (slcL l a b).length
end Go.Proofs.Ytfelkiflknjkdaa.Pl
