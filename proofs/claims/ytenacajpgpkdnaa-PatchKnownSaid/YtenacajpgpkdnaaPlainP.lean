/- Plain laws for patch: bits, texts laid over one another. No Go in sight. -/
import Derived.Test.YtenacajpgpkdnaaPlain
import Derived.Lib.BitFns
namespace Go.Proofs.Ytenacajpgpkdnaa.Pl
open Go.RowKit

def bitV (l : List UInt8) (i : Int) : Int := if 0 ≤ i ∧ i < 1073741824 then bitL l i.toNat else 0
def bitC (i : Int) : Int := if 0 ≤ i ∧ i < 1073741824 then 0 else 3
theorem bitV_in {l : List UInt8} {i : Int} (h : 0 ≤ i ∧ i < 1073741824) : bitV l i = bitL l i.toNat := if_pos h
theorem bitC_in {i : Int} (h : 0 ≤ i ∧ i < 1073741824) : bitC i = 0 := if_pos h
theorem bitV_out {l : List UInt8} {i : Int} (h : ¬ (0 ≤ i ∧ i < 1073741824)) : bitV l i = 0 := if_neg h
theorem bitC_out {i : Int} (h : ¬ (0 ≤ i ∧ i < 1073741824)) : bitC i = 3 := if_neg h
theorem bitL_far (l : List UInt8) (k : Nat) (h : l.length ≤ k / 8) : bitL l k = 0 := by
  unfold bitL
  rw [at_out l (k / 8) h, Int.zero_ediv]
  rfl
/-- the test of a byte under its mask -/
theorem bitL_and (l : List UInt8) (k : Nat) : (bits BinOp.and IntKind.u8 (at_ l (k / 8)) (msk (k % 8)) == 0) = decide (bitL l k = 0) := by
  obtain ⟨h0, h1⟩ := at_bd l (k / 8)
  exact and_msk _ h0 h1 (k % 8) (by omega)
theorem bitL_andI (l : List UInt8) (i : Int) (h0 : 0 ≤ i) : (bits BinOp.and IntKind.u8 (at_ l (i / 8).toNat) (msk (i % 8).toNat) == 0) = decide (bitL l i.toNat = 0) := by
  rw [show (i / 8).toNat = i.toNat / 8 by omega, show (i % 8).toNat = i.toNat % 8 by omega]
  exact bitL_and l i.toNat
theorem bit_yes {l : List UInt8} {i x : Int} (h0 : 0 ≤ i) (hx : x = at_ l (i / 8).toNat) (h : (bits BinOp.and IntKind.u8 x (msk (i % 8).toNat) != 0) = true) : bitL l i.toNat = 1 := by
  have hb := bitL_andI l i h0
  rw [← hx] at hb
  rcases bitL_01 l i.toNat with e | e
  · rw [bne, hb, e] at h; simp at h
  · exact e
theorem bit_no {l : List UInt8} {i x : Int} (h0 : 0 ≤ i) (hx : x = at_ l (i / 8).toNat) (h : (bits BinOp.and IntKind.u8 x (msk (i % 8).toNat) != 0) = false) : bitL l i.toNat = 0 := by
  have hb := bitL_andI l i h0
  rw [← hx] at hb
  rcases bitL_01 l i.toNat with e | e
  · exact e
  · rw [bne, hb, e] at h; simp at h
theorem bit_farI {l : List UInt8} {i : Int} (h0 : 0 ≤ i) (h : l.length ≤ (i / 8).toNat) : bitL l i.toNat = 0 := bitL_far l _ (by omega)
/-- Join -/
def joinS (s v : ByteArray) : ByteArray := if 1048576 < (s.size : Int) + (v.size : Int) then B [] else s ++ v
def joinC (s v : ByteArray) : Int := if 1048576 < (s.size : Int) + (v.size : Int) then 2 else 0
theorem B_nil : B [] = { data := #[] } := rfl
/-- how many ones: of a byte, of a text -/
def ones8 (c : Int) : Int := c % 2 + c / 2 % 2 + c / 4 % 2 + c / 8 % 2 + c / 16 % 2 + c / 32 % 2 + c / 64 % 2 + c / 128 % 2
def onesT (l : List UInt8) : Nat → Int
  | 0 => 0
  | k + 1 => onesT l k + ones8 (at_ l k)
def bitsT (l : List UInt8) : Nat → Int
  | 0 => 0
  | i + 1 => bitsT l i + bitL l i
theorem bitsT_bd (l : List UInt8) (i : Nat) : 0 ≤ bitsT l i ∧ bitsT l i ≤ i := by
  induction i with
  | zero => simp [bitsT]
  | succ i ih => have := bitL_01 l i; simp only [bitsT]; omega
theorem bitL_at (l : List UInt8) (k j : Nat) (hj : j < 8) : bitL l (8 * k + j) = at_ l k / 2 ^ (7 - j) % 2 := by
  unfold bitL
  rw [show (8 * k + j) / 8 = k by omega, show (8 * k + j) % 8 = j by omega]
theorem bitsT_eq (l : List UInt8) (k : Nat) : bitsT l (8 * k) = onesT l k := by
  induction k with
  | zero => rfl
  | succ k ih =>
    have e : bitsT l (8 * (k + 1)) = bitsT l (8 * k) + bitL l (8 * k + 0) + bitL l (8 * k + 1) + bitL l (8 * k + 2) + bitL l (8 * k + 3) + bitL l (8 * k + 4) + bitL l (8 * k + 5) + bitL l (8 * k + 6) + bitL l (8 * k + 7) := rfl
    rw [e, ih, bitL_at _ _ _ (by decide), bitL_at _ _ _ (by decide), bitL_at _ _ _ (by decide), bitL_at _ _ _ (by decide), bitL_at _ _ _ (by decide), bitL_at _ _ _ (by decide), bitL_at _ _ _ (by decide), bitL_at _ _ _ (by decide)]
    simp only [onesT, ones8]
    simp
    omega
theorem onesT_bd (l : List UInt8) (k : Nat) : 0 ≤ onesT l k ∧ onesT l k ≤ 8 * k := by
  have := bitsT_bd l (8 * k)
  rw [bitsT_eq] at this
  omega
theorem ones_fin : ∀ x : Fin 256, Lib.onesCount x.val = ones8 (x.val : Int) := by decide +kernel
theorem ones_byte (c : Int) (h0 : 0 ≤ c) (h1 : c ≤ 255) : (Lib.onesCount c.toNat : Int) = ones8 c := by
  obtain ⟨n, rfl⟩ := Int.eq_ofNat_of_zero_le h0
  exact ones_fin ⟨n, by omega⟩
theorem ones8_bd (c : Int) : 0 ≤ ones8 c ∧ ones8 c ≤ 8 := by unfold ones8; omega
/-- Ones -/
def onesL (l : List UInt8) (a b : Int) : Int := onesT (slcL l a b) (slcL l a b).length
/-- Overlay: what is told, and how it went -/
def ovL (s v : List UInt8) (p : Nat) : List UInt8 := (List.range (max s.length (p + v.length))).map fun i => if p ≤ i ∧ i < p + v.length then v.getD (i - p) 0 else s.getD i 0
theorem ovL_length (s v : List UInt8) (p : Nat) : (ovL s v p).length = max s.length (p + v.length) := by simp [ovL]
theorem ovL_getD (s v : List UInt8) (p i : Nat) (h : i < max s.length (p + v.length)) : (ovL s v p).getD i 0 = if p ≤ i ∧ i < p + v.length then v.getD (i - p) 0 else s.getD i 0 := by
  unfold ovL
  rw [List.getD_eq_getElem?_getD, List.getElem?_map, List.getElem?_range h]
  rfl
theorem ov_spl (s v : List UInt8) (p : Nat) : spl (filL s (p + v.length)) p v = ovL s v p := by
  have hl : (filL s (p + v.length)).length = max s.length (p + v.length) := filL_length _ _
  apply list_ext0
  · rw [spl_length _ _ _ (by omega), hl, ovL_length]
  · intro i hi
    rw [spl_length _ _ _ (by omega), hl] at hi
    rw [spl_getD _ _ _ _ (by omega), ovL_getD _ _ _ _ hi, filL_getD]
def ovS (s : ByteArray) (p : Int) (v : ByteArray) : ByteArray :=
  if p < 0 then B [] else if v.size = 0 then s else if 1048576 < s.size ∨ 1048576 < p ∨ 1048576 < p + v.size then B [] else B (ovL (L s) (L v) p.toNat)
def ovC (s : ByteArray) (p : Int) (v : ByteArray) : Int :=
  if p < 0 then 3 else if v.size = 0 then 0 else if 1048576 < s.size ∨ 1048576 < p ∨ 1048576 < p + v.size then 2 else 0
theorem ov_neg {s : ByteArray} {p : Int} {v : ByteArray} (h : p < 0) : ovS s p v = B [] ∧ ovC s p v = 3 := ⟨if_pos h, if_pos h⟩
theorem ov_nil {s : ByteArray} {p : Int} {v : ByteArray} (h : 0 ≤ p) (hv : v.size = 0) : ovS s p v = s ∧ ovC s p v = 0 := by
  have hn : ¬ p < 0 := by omega
  refine ⟨?_, ?_⟩
  · unfold ovS; rw [if_neg hn, if_pos hv]
  · unfold ovC; rw [if_neg hn, if_pos hv]
theorem ov_long {s : ByteArray} {p : Int} {v : ByteArray} (h : 0 ≤ p) (hv : v.size ≠ 0) (hl : 1048576 < s.size ∨ 1048576 < p ∨ 1048576 < p + v.size) : ovS s p v = B [] ∧ ovC s p v = 2 := by
  have hn : ¬ p < 0 := by omega
  refine ⟨?_, ?_⟩
  · unfold ovS; rw [if_neg hn, if_neg hv, if_pos hl]
  · unfold ovC; rw [if_neg hn, if_neg hv, if_pos hl]
theorem ov_ok {s : ByteArray} {p : Int} {v : ByteArray} (h : 0 ≤ p) (hv : v.size ≠ 0) (hl : ¬ (1048576 < s.size ∨ 1048576 < p ∨ 1048576 < p + v.size)) : ovS s p v = B (ovL (L s) (L v) p.toNat) ∧ ovC s p v = 0 := by
  have hn : ¬ p < 0 := by omega
  refine ⟨?_, ?_⟩
  · unfold ovS; rw [if_neg hn, if_neg hv, if_neg hl]
  · unfold ovC; rw [if_neg hn, if_neg hv, if_neg hl]
theorem empty_yes {v : ByteArray} (h : v.size = 0) : v.toList.isEmpty = true := by
  rw [ByteArray.toList_eq]
  have : v.data.toList.length = 0 := by rw [Array.length_toList]; exact h
  rw [List.eq_nil_of_length_eq_zero this]
  rfl
theorem empty_no {v : ByteArray} (h : v.size ≠ 0) : v.toList.isEmpty = false := by
  rw [ByteArray.toList_eq]
  have : v.data.toList.length ≠ 0 := by rw [Array.length_toList]; exact h
  cases hh : v.data.toList with
  | nil => rw [hh] at this; simp at this
  | cons => rfl
/-- a byte with one bit set anew -/
def nb (x : Int) (m : Nat) (b : Int) : Int := x - x / 2 ^ (7 - m) % 2 * 2 ^ (7 - m) + b * 2 ^ (7 - m)
theorem andNot_fin : ∀ x : Fin 256, ∀ m : Fin 8, (bits BinOp.andNot IntKind.u8 (x.val : Int) (msk m.val) == nb (x.val : Int) m.val 0) = true := by decide +kernel
theorem or_fin : ∀ x : Fin 256, ∀ m : Fin 8, (bits BinOp.or IntKind.u8 (nb (x.val : Int) m.val 0) (msk m.val) == nb (x.val : Int) m.val 1) = true := by decide +kernel
theorem nb_fin : ∀ x : Fin 256, ∀ m : Fin 8, (decide (0 ≤ nb (x.val : Int) m.val 0 ∧ nb (x.val : Int) m.val 0 ≤ 255 ∧ 0 ≤ nb (x.val : Int) m.val 1 ∧ nb (x.val : Int) m.val 1 ≤ 255)) = true := by decide +kernel
section
variable (x : Int) (h0 : 0 ≤ x) (h1 : x ≤ 255) (m : Nat) (hm : m < 8)
include h0 h1 hm
theorem andNot_msk : bits BinOp.andNot IntKind.u8 x (msk m) = nb x m 0 := by
  obtain ⟨n, rfl⟩ := Int.eq_ofNat_of_zero_le h0
  exact beq_iff_eq.1 (andNot_fin ⟨n, by omega⟩ ⟨m, hm⟩)
theorem or_msk : bits BinOp.or IntKind.u8 (nb x m 0) (msk m) = nb x m 1 := by
  obtain ⟨n, rfl⟩ := Int.eq_ofNat_of_zero_le h0
  exact beq_iff_eq.1 (or_fin ⟨n, by omega⟩ ⟨m, hm⟩)
theorem nb_bd : 0 ≤ nb x m 0 ∧ nb x m 0 ≤ 255 ∧ 0 ≤ nb x m 1 ∧ nb x m 1 ≤ 255 := by
  obtain ⟨n, rfl⟩ := Int.eq_ofNat_of_zero_le h0
  exact of_decide_eq_true (nb_fin ⟨n, by omega⟩ ⟨m, hm⟩)
end
theorem nb_same (x : Int) (m : Nat) : nb x m (x / 2 ^ (7 - m) % 2) = x := by unfold nb; omega
theorem nb_up (x : Int) (m : Nat) (h : x / 2 ^ (7 - m) % 2 = 0) : nb x m 1 = x + 2 ^ (7 - m) := by unfold nb; rw [h]; omega
theorem nb_down (x : Int) (m : Nat) (h : x / 2 ^ (7 - m) % 2 = 1) : nb x m 0 = x - 2 ^ (7 - m) := by unfold nb; rw [h]; omega
theorem set_len (l : List UInt8) (k : Nat) (c : UInt8) : (l.set k c).length = l.length := List.length_set
theorem bit_atI (l : List UInt8) (i : Int) (h0 : 0 ≤ i) : bitL l i.toNat = at_ l (i / 8).toNat / 2 ^ (7 - (i % 8).toNat) % 2 := by
  unfold bitL
  rw [show (i / 8).toNat = i.toNat / 8 by omega, show (i % 8).toNat = i.toNat % 8 by omega]
theorem pow_fin : ∀ q : Fin 8, (decide (0 ≤ (2 : Int) ^ q.val ∧ (2 : Int) ^ q.val ≤ 128)) = true := by decide
theorem pow_bd (q : Nat) (h : q ≤ 7) : 0 ≤ (2 : Int) ^ q ∧ (2 : Int) ^ q ≤ 128 := of_decide_eq_true (pow_fin ⟨q, by omega⟩)
theorem pow_fin' : ∀ q : Fin 7, (decide ((2 : Int) ^ q.val ≤ 64)) = true := by decide
theorem pow_bd' (q : Nat) (h : q ≤ 6) : (2 : Int) ^ q ≤ 64 := of_decide_eq_true (pow_fin' ⟨q, by omega⟩)
theorem pow_step (q : Nat) : (2 : Int) ^ (q + 1) = 2 ^ q * 2 := Int.pow_succ 2 q
/-- SetBit -/
def sbL (l : List UInt8) (i : Nat) (b : Int) : List UInt8 := (List.range (max l.length (i / 8 + 1))).map fun k => if k = i / 8 then ofI (nb (at_ l k) (i % 8) b) else l.getD k 0
theorem sbL_length (l : List UInt8) (i : Nat) (b : Int) : (sbL l i b).length = max l.length (i / 8 + 1) := by simp [sbL]
theorem sbL_getD (l : List UInt8) (i : Nat) (b : Int) (k : Nat) (h : k < max l.length (i / 8 + 1)) : (sbL l i b).getD k 0 = if k = i / 8 then ofI (nb (at_ l k) (i % 8) b) else l.getD k 0 := by
  unfold sbL
  rw [List.getD_eq_getElem?_getD, List.getElem?_map, List.getElem?_range h]
  rfl
theorem at_fil (l : List UInt8) (n k : Nat) : at_ (filL l n) k = at_ l k := by unfold at_; rw [filL_getD]
theorem sb_set (l : List UInt8) (i : Nat) (b : Int) : (filL l (i / 8 + 1)).set (i / 8) (ofI (nb (at_ l (i / 8)) (i % 8) b)) = sbL l i b := by
  apply list_ext0
  · rw [List.length_set, filL_length, sbL_length]
  · intro k hk
    rw [List.length_set, filL_length] at hk
    rw [sbL_getD _ _ _ _ hk]
    rw [List.getD_eq_getElem?_getD, List.getElem?_set]
    by_cases h : i / 8 = k
    · subst h
      rw [if_pos rfl, if_pos (by rw [filL_length]; omega), if_pos rfl]
      rfl
    · rw [if_neg h, if_neg (Ne.symm h), ← List.getD_eq_getElem?_getD, filL_getD]
theorem sb_setI (l : List UInt8) (i : Int) (b : Int) (h0 : 0 ≤ i) : (filL l (i / 8 + 1).toNat).set (i / 8).toNat (ofI (nb (at_ l (i / 8).toNat) (i % 8).toNat b)) = sbL l i.toNat b := by
  rw [show (i / 8 + 1).toNat = i.toNat / 8 + 1 by omega, show (i / 8).toNat = i.toNat / 8 by omega, show (i % 8).toNat = i.toNat % 8 by omega]
  exact sb_set l i.toNat b
def sbArg (i b : Int) : Prop := ¬ (0 ≤ i ∧ i < 1073741824) ∨ b < 0 ∨ 1 < b
def sbLong (s : ByteArray) (i : Int) : Prop := 1048576 < s.size ∨ 8388608 ≤ i
instance (i b : Int) : Decidable (sbArg i b) := by unfold sbArg; infer_instance
instance (s : ByteArray) (i : Int) : Decidable (sbLong s i) := by unfold sbLong; infer_instance
def sbS (s : ByteArray) (i b : Int) : ByteArray := if sbArg i b then B [] else if sbLong s i then B [] else B (sbL (L s) i.toNat b)
def sbW (s : ByteArray) (i b : Int) : Int := if sbArg i b then 0 else if sbLong s i then 0 else bitL (L s) i.toNat
def sbC (s : ByteArray) (i b : Int) : Int := if sbArg i b then 3 else if sbLong s i then 2 else 0
theorem sb_arg {s : ByteArray} {i b : Int} (h : sbArg i b) : sbS s i b = B [] ∧ sbW s i b = 0 ∧ sbC s i b = 3 := ⟨if_pos h, if_pos h, if_pos h⟩
theorem sb_long {s : ByteArray} {i b : Int} (h : ¬ sbArg i b) (hl : sbLong s i) : sbS s i b = B [] ∧ sbW s i b = 0 ∧ sbC s i b = 2 := by
  refine ⟨?_, ?_, ?_⟩
  · unfold sbS; rw [if_neg h, if_pos hl]
  · unfold sbW; rw [if_neg h, if_pos hl]
  · unfold sbC; rw [if_neg h, if_pos hl]
theorem sb_ok {s : ByteArray} {i b : Int} (h : ¬ sbArg i b) (hl : ¬ sbLong s i) : sbS s i b = B (sbL (L s) i.toNat b) ∧ sbW s i b = bitL (L s) i.toNat ∧ sbC s i b = 0 := by
  refine ⟨?_, ?_, ?_⟩
  · unfold sbS; rw [if_neg h, if_neg hl]
  · unfold sbW; rw [if_neg h, if_neg hl]
  · unfold sbC; rw [if_neg h, if_neg hl]
end Go.Proofs.Ytenacajpgpkdnaa.Pl
