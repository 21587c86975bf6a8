/- Plain laws on a text cut in two. No Go in sight. -/
import Derived.Test.YtfelkiflknjkdaaPlainR
namespace Go.Proofs.Ytfelkiflknjkdaa.Pl
open Go.RowKit

theorem at_left (x y : List UInt8) (k : Nat) (h : k < x.length) : at_ (x ++ y) k = at_ x k := by
  unfold at_
  simp only [List.getD_eq_getElem?_getD, List.getElem?_append_left h]
theorem at_right (x y : List UInt8) (k : Nat) : at_ (x ++ y) (x.length + k) = at_ y k := by
  unfold at_
  simp only [List.getD_eq_getElem?_getD]
  rw [List.getElem?_append_right (by omega), show x.length + k - x.length = k by omega]
theorem onesT_left (x y : List UInt8) (k : Nat) (h : k ≤ x.length) : onesT (x ++ y) k = onesT x k := by
  induction k with
  | zero => rfl
  | succ k ih => simp only [onesT]; rw [ih (by omega), at_left _ _ _ (by omega)]
theorem onesT_right (x y : List UInt8) (k : Nat) : onesT (x ++ y) (x.length + k) = onesT x x.length + onesT y k := by
  induction k with
  | zero => simp only [onesT]; rw [Nat.add_zero, onesT_left _ _ _ (Nat.le_refl _)]; omega
  | succ k ih =>
    rw [show x.length + (k + 1) = (x.length + k) + 1 by omega]
    simp only [onesT]
    rw [ih, at_right]
    omega
theorem onesL_T (l : List UInt8) : onesL l 0 (-1) = onesT l l.length := by rw [onesL_all, bitsT_eq]
theorem ones_cut (l : List UInt8) (k : Nat) : onesL (l.take k) 0 (-1) + onesL (l.drop k) 0 (-1) = onesL l 0 (-1) := by
  rw [onesL_T, onesL_T, onesL_T]
  have h := onesT_right (l.take k) (l.drop k) (l.drop k).length
  rw [List.take_append_drop, ← List.length_append, List.take_append_drop] at h
  exact h.symm
theorem slc_head (l : List UInt8) (k : Nat) (h0 : 1 ≤ k) (h1 : k ≤ l.length) : slcL l 0 ((k : Int) - 1) = l.take k := by
  rw [slcL_in (by omega) (by omega) (by omega)]
  unfold slc
  rw [show (0 : Int).toNat = 0 from rfl, List.drop_zero, show ((k : Int) - 1 + 1).toNat - 0 = k by omega]
theorem slc_rest (l : List UInt8) (k : Nat) (h1 : k < l.length) : slcL l k (-1) = l.drop k := by
  have h : nn (l.length : Int) = l.length := if_neg (by omega)
  have hs : sF k (-1) l.length = k ∧ sT k (-1) l.length = l.length := by
    unfold sF sT spF spT
    rw [h, cnt_pos (by omega : (0 : Int) ≤ k), cnt_neg (by omega : (-1 : Int) < 0)]
    rw [if_neg (by omega : ¬ (k : Int) < 0), if_neg (by omega : ¬ (l.length : Int) - 1 < -1 + l.length), if_pos (by omega), if_pos (by omega)]
    constructor <;> omega
  unfold slcL
  rw [hs.1, hs.2]
  unfold slc
  exact List.take_of_length_le (by rw [List.length_drop]; omega)
theorem B_append (x y : List UInt8) : B x ++ B y = B (x ++ y) := by
  apply ByteArray.ext
  rw [ByteArray.data_append]
  simp [B]
theorem cut_join (s : ByteArray) (k : Nat) : B ((L s).take k) ++ B ((L s).drop k) = s := by rw [B_append, List.take_append_drop, B_L]
theorem ext_head (s : ByteArray) (k : Nat) : s.extract 0 k = B ((L s).take k) := by rw [extract_B]; unfold slc; rw [List.drop_zero, Nat.sub_zero]
theorem ext_rest (s : ByteArray) (k : Nat) : s.extract k s.size = B ((L s).drop k) := by
  rw [extract_B]; unfold slc
  exact congrArg B (List.take_of_length_le (by rw [List.length_drop, L_length]; omega))
theorem cut_size (s : ByteArray) (k : Nat) (h : k ≤ s.size) : (B ((L s).take k)).size = k ∧ (B ((L s).drop k)).size = s.size - k := by
  rw [B_size, B_size, List.length_take, List.length_drop, L_length]; omega
theorem join_cut (s : ByteArray) (k : Nat) (h : k ≤ s.size) :
    joinS (B ((L s).take k)) (B ((L s).drop k)) = (if 1048576 < s.size then B [] else s) ∧ joinC (B ((L s).take k)) (B ((L s).drop k)) = (if 1048576 < s.size then 2 else 0) := by
  obtain ⟨h1, h2⟩ := cut_size s k h
  unfold joinS joinC
  rw [h1, h2, cut_join]
  by_cases c : 1048576 < s.size
  · have e : (1048576 : Int) < (k : Int) + ((s.size - k : Nat) : Int) := by omega
    rw [if_pos e, if_pos e, if_pos c, if_pos c]; exact ⟨rfl, rfl⟩
  · have e : ¬ (1048576 : Int) < (k : Int) + ((s.size - k : Nat) : Int) := by omega
    rw [if_neg e, if_neg e, if_neg c, if_neg c]; exact ⟨rfl, rfl⟩
/-- the number of ones is the sum of all bits -/
theorem ones_bits (s : ByteArray) (m : Nat) (h : m = 8 * s.size) : bitsT (L s) m = onesL (L s) 0 (-1) := by rw [h, onesL_all, L_length]
end Go.Proofs.Ytfelkiflknjkdaa.Pl
