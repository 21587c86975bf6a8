/- Plain laws on setting a bit and on counting ones. No Go in sight. -/
import Derived.Test.YtenacajpgpkdnaaPlainQ
namespace Go.Proofs.Ytenacajpgpkdnaa.Pl
open Go.RowKit

theorem nbb_fin : ∀ x : Fin 256, ∀ m : Fin 8, ∀ q : Fin 8, (decide (nb (x.val : Int) m.val 0 / 2 ^ (7 - q.val) % 2 = (if q.val = m.val then 0 else (x.val : Int) / 2 ^ (7 - q.val) % 2) ∧
    nb (x.val : Int) m.val 1 / 2 ^ (7 - q.val) % 2 = (if q.val = m.val then 1 else (x.val : Int) / 2 ^ (7 - q.val) % 2))) = true := by decide +kernel
theorem nb_bit (x : Int) (h0 : 0 ≤ x) (h1 : x ≤ 255) (m q : Nat) (hm : m < 8) (hq : q < 8) (b : Int) (hb : b = 0 ∨ b = 1) :
    nb x m b / 2 ^ (7 - q) % 2 = if q = m then b else x / 2 ^ (7 - q) % 2 := by
  obtain ⟨n, rfl⟩ := Int.eq_ofNat_of_zero_le h0
  have := of_decide_eq_true (nbb_fin ⟨n, by omega⟩ ⟨m, hm⟩ ⟨q, hq⟩)
  rcases hb with rfl | rfl
  · exact this.1
  · exact this.2
theorem nb_range (x : Int) (h0 : 0 ≤ x) (h1 : x ≤ 255) (m : Nat) (hm : m < 8) (b : Int) (hb : b = 0 ∨ b = 1) : 0 ≤ nb x m b ∧ nb x m b ≤ 255 := by
  have := nb_bd x h0 h1 m hm
  rcases hb with rfl | rfl
  · exact ⟨this.1, this.2.1⟩
  · exact ⟨this.2.2.1, this.2.2.2⟩
theorem sbL_at (l : List UInt8) (i : Nat) (b : Int) (hb : b = 0 ∨ b = 1) (k : Nat) : at_ (sbL l i b) k = if k = i / 8 then nb (at_ l k) (i % 8) b else at_ l k := by
  obtain ⟨x0, x1⟩ := at_bd l k
  obtain ⟨y0, y1⟩ := nb_range _ x0 x1 (i % 8) (by omega) b hb
  by_cases h : k < max l.length (i / 8 + 1)
  · unfold at_
    rw [sbL_getD _ _ _ _ h]
    split
    · exact ofI_nat y0 y1
    · rfl
  · rw [at_out _ _ (by rw [sbL_length]; omega), if_neg (by omega), at_out _ _ (by omega)]
theorem bitL_sb (l : List UInt8) (i : Nat) (b : Int) (hb : b = 0 ∨ b = 1) (j : Nat) : bitL (sbL l i b) j = if j = i then b else bitL l j := by
  obtain ⟨x0, x1⟩ := at_bd l (j / 8)
  unfold bitL
  rw [sbL_at _ _ _ hb]
  by_cases h : j / 8 = i / 8
  · rw [if_pos h, nb_bit _ x0 x1 _ _ (by omega) (by omega) b hb]
    by_cases h2 : j = i
    · rw [if_pos h2, if_pos (by rw [h2])]
    · rw [if_neg h2, if_neg (by omega)]
  · rw [if_neg h, if_neg (by intro e; exact h (by rw [e]))]
theorem bits_far (l : List UInt8) (n : Nat) : bitsT l (8 * l.length + n) = bitsT l (8 * l.length) := by
  induction n with
  | zero => rfl
  | succ n ih =>
    rw [show 8 * l.length + (n + 1) = (8 * l.length + n) + 1 by omega]
    simp only [bitsT]
    rw [ih, bitL_far _ _ (by omega)]
    omega
theorem bits_sb (l : List UInt8) (i : Nat) (b : Int) (hb : b = 0 ∨ b = 1) (n : Nat) : bitsT (sbL l i b) n = if i < n then bitsT l n + b - bitL l i else bitsT l n := by
  induction n with
  | zero => rfl
  | succ n ih =>
    simp only [bitsT]
    rw [ih, bitL_sb _ _ _ hb]
    by_cases h : n = i
    · subst h
      rw [if_neg (by omega), if_pos rfl, if_pos (by omega)]
      omega
    · rw [if_neg h]
      by_cases h2 : i < n
      · rw [if_pos h2, if_pos (by omega)]; omega
      · rw [if_neg h2, if_neg (by omega)]
theorem sp_all (n : Nat) : sF 0 (-1) n = 0 ∧ sT 0 (-1) n = n := by
  have h : nn (n : Int) = n := if_neg (by omega)
  unfold sF sT spF spT
  rw [h, cnt_pos (by omega : (0 : Int) ≤ 0), cnt_neg (by omega : (-1 : Int) < 0)]
  rw [if_neg (by omega : ¬ (0 : Int) < 0), if_neg (by omega : ¬ (n : Int) - 1 < -1 + n)]
  split <;> constructor <;> omega
theorem slcL_all (l : List UInt8) : slcL l 0 (-1) = l := by
  unfold slcL
  rw [(sp_all _).1, (sp_all _).2]
  unfold slc
  rw [List.drop_zero, Nat.sub_zero, List.take_length]
theorem onesL_all (l : List UInt8) : onesL l 0 (-1) = bitsT l (8 * l.length) := by
  unfold onesL
  rw [slcL_all, bitsT_eq]
theorem ones_sb (l : List UInt8) (i : Nat) (b : Int) (hb : b = 0 ∨ b = 1) : onesL (sbL l i b) 0 (-1) = onesL l 0 (-1) + b - bitL l i := by
  rw [onesL_all, onesL_all, bits_sb _ _ _ hb, sbL_length, if_pos (by omega)]
  rw [show 8 * max l.length (i / 8 + 1) = 8 * l.length + (8 * max l.length (i / 8 + 1) - 8 * l.length) by omega, bits_far]
theorem at_ext {l m : List UInt8} (h : l.length = m.length) (hg : ∀ i, i < l.length → at_ l i = at_ m i) : l = m := by
  apply list_ext0 h
  intro i hi
  have := hg i hi
  unfold at_ at this
  exact UInt8.toNat_inj.1 (by omega)
theorem nb_nb (x : Int) (h0 : 0 ≤ x) (h1 : x ≤ 255) (m : Nat) (hm : m < 8) (b : Int) (hb : b = 0 ∨ b = 1) : nb (nb x m b) m (x / 2 ^ (7 - m) % 2) = x := by
  have h := nb_bit x h0 h1 m m hm hm b hb
  rw [if_pos rfl] at h
  unfold nb at h ⊢
  rw [h]
  omega
theorem sb_back (l : List UInt8) (i : Nat) (b : Int) (hb : b = 0 ∨ b = 1) : sbL (sbL l i b) i (bitL l i) = filL l (i / 8 + 1) := by
  apply at_ext
  · rw [sbL_length, sbL_length, filL_length]; omega
  · intro k _
    obtain ⟨x0, x1⟩ := at_bd l k
    rw [sbL_at _ _ _ (bitL_01 l i), sbL_at _ _ _ hb, at_fil]
    by_cases h : k = i / 8
    · rw [if_pos h, if_pos h]
      unfold bitL
      rw [← h]
      exact nb_nb _ x0 x1 _ (by omega) b hb
    · rw [if_neg h, if_neg h]
theorem fil_take (l : List UInt8) (n : Nat) : (filL l n).take l.length = l := by unfold filL; rw [List.take_append_of_le_length (Nat.le_refl _), List.take_length]
end Go.Proofs.Ytenacajpgpkdnaa.Pl
