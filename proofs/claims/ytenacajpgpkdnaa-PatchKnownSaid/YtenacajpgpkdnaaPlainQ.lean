/- Plain laws for the statements on patch that do not ask the document's answer. No Go in sight. -/
import Derived.Test.YtenacajpgpkdnaaPlainP
namespace Go.Proofs.Ytenacajpgpkdnaa.Pl
open Go.RowKit

theorem sp_in {a b : Int} {n : Nat} (h0 : 0 ≤ a) (h1 : a ≤ b) (h2 : b < n) : sF a b n = a.toNat ∧ sT a b n = (b + 1).toNat := by
  have h : nn (n : Int) = n := if_neg (by omega)
  unfold sF sT spF spT
  rw [h, cnt_pos h0, cnt_pos (by omega : 0 ≤ b)]
  rw [if_neg (by omega : ¬ a < 0), if_neg (by omega : ¬ (n : Int) - 1 < b), if_pos h1, if_pos h1]
  exact ⟨rfl, rfl⟩
theorem slc_getD (l : List UInt8) (f t i : Nat) (h : i < t - f) : (slc l f t).getD i 0 = l.getD (f + i) 0 := by
  unfold slc
  rw [List.getD_eq_getElem?_getD, List.getElem?_take_of_lt h, List.getElem?_drop, ← List.getD_eq_getElem?_getD]
theorem slcL_in {l : List UInt8} {a b : Int} (h0 : 0 ≤ a) (h1 : a ≤ b) (h2 : b < l.length) : slcL l a b = slc l a.toNat (b + 1).toNat := by
  unfold slcL
  rw [(sp_in h0 h1 h2).1, (sp_in h0 h1 h2).2]
theorem ovL_again (s v : List UInt8) (p : Nat) : ovL (ovL s v p) v p = ovL s v p := by
  apply list_ext0
  · rw [ovL_length, ovL_length]; omega
  · intro i hi
    rw [ovL_length, ovL_length] at hi
    rw [ovL_getD _ _ _ _ (by rw [ovL_length]; exact hi)]
    split
    · rw [ovL_getD _ _ _ _ (by omega), if_pos (by assumption)]
    · rfl
theorem ovL_slc (s v : List UInt8) (p : Int) (h0 : 0 ≤ p) (hv : 1 ≤ v.length) : slcL (ovL s v p.toNat) p (p + v.length - 1) = v := by
  rw [slcL_in h0 (by omega) (by rw [ovL_length]; omega)]
  apply list_ext0
  · rw [slc_length _ _ _ (by omega) (by rw [ovL_length]; omega)]; omega
  · intro i hi
    rw [slc_length _ _ _ (by omega) (by rw [ovL_length]; omega)] at hi
    rw [slc_getD _ _ _ _ (by omega), ovL_getD _ _ _ _ (by omega), if_pos (by omega)]
    rw [show p.toNat + i - p.toNat = i by omega]
/-- Overlay, once more -/
theorem ov_again {s v : ByteArray} {p : Int} (h : 0 ≤ p) (hv : v.size ≠ 0) (hl : ¬ (1048576 < s.size ∨ 1048576 < p ∨ 1048576 < p + v.size)) :
    ovS (B (ovL (L s) (L v) p.toNat)) p v = B (ovL (L s) (L v) p.toNat) ∧ ovC (B (ovL (L s) (L v) p.toNat)) p v = 0 := by
  have hz : (B (ovL (L s) (L v) p.toNat)).size = max s.size (p.toNat + v.size) := by rw [B_size, ovL_length, L_length, L_length]
  obtain ⟨e1, e2⟩ := ov_ok (s := B (ovL (L s) (L v) p.toNat)) (p := p) h hv (by rw [hz]; omega)
  rw [L_B, ovL_again] at e1
  exact ⟨e1, e2⟩
end Go.Proofs.Ytenacajpgpkdnaa.Pl
