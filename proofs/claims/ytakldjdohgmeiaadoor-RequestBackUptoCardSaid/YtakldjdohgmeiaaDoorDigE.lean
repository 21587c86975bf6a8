/- Contract of digit.plain: is a word digits in their one form? No condition but the form's reach. -/
import Derived.Test.YtakldjdohgmeiaaDoorRead
import Derived.Test.YtakldjdohgmeiaaDoorProg
namespace Go.Proofs.YtakldjdohgmeiaaDoor
open Go.RowKit
set_option maxRecDepth 20000

namespace Pl
theorem ba_ext {s t : ByteArray} (h : L s = L t) : s = t := by rw [← B_L s, ← B_L t, h]
theorem get_L (s : ByteArray) (k : Nat) (h : k < s.size) : (L s)[k]? = some (s[k]'h) := by
  rw [L_get s k h, List.getD_eq_getElem?_getD]
  have h' : k < (L s).length := by rw [L_length]; exact h
  rw [List.getElem?_eq_getElem h']
  rfl
theorem get_mem (s : ByteArray) (k : Nat) (h : k < s.size) : s[k]'h ∈ L s := List.mem_of_getElem? (get_L s k h)
theorem head_L (s : ByteArray) (h : 0 < s.size) : (L s).head? = some (s[0]'h) := by
  rw [← get_L s 0 h, List.head?_eq_getElem?]
theorem plain_no {l : List UInt8} {c : UInt8} (hm : c ∈ l) (hc : ¬ (48 ≤ c.toNat ∧ c.toNat ≤ 57)) : plainW l = false := by
  cases h : plainW l
  · rfl
  · exact absurd ((plainW_allD h).1 c hm) hc
theorem plain_zero {l : List UInt8} (h1 : l ≠ [48]) (h2 : l.head? = some 48) : plainW l = false := by
  cases h : plainW l
  · rfl
  · rcases plainW_cases h with e | ⟨c, r, e, hc, _⟩
    · exact absurd e h1
    · rw [e] at h2
      exact absurd (by simpa using h2) hc
theorem plain_yes {l : List UInt8} {c : UInt8} (h1 : l.head? = some c) (hc : c ≠ 48) (hd : allD l) : plainW l = true := by
  cases l with
  | nil => cases h1
  | cons x r =>
    have : x = c := by simpa using h1
    subst this
    exact plainW_of hc hd
theorem allD_get {s : ByteArray} (h : ∀ k, (hk : k < s.size) → 48 ≤ (s[k]'hk).toNat ∧ (s[k]'hk).toNat ≤ 57) : allD (L s) := by
  intro c hc
  obtain ⟨k, hk, e⟩ := List.mem_iff_getElem.1 hc
  have hk' : k < s.size := by rw [← L_length]; exact hk
  have h1 := get_L s k hk'
  rw [List.getElem?_eq_getElem hk] at h1
  injection h1 with h1
  rw [← e, h1]
  exact h k hk'
theorem toL_ne {s : ByteArray} {l : List UInt8} (h : L s ≠ l) : (s.toList == l) = false := by
  rw [ByteArray.toList_eq]
  exact beq_eq_false_iff_ne.2 h
theorem toL_eq {s : ByteArray} {l : List UInt8} (h : L s = l) : (s.toList == l) = true := by
  rw [ByteArray.toList_eq]
  exact beq_iff_eq.2 h
theorem toL_full {s : ByteArray} (h : 0 < s.size) : s.toList.isEmpty = false := by
  rw [ByteArray.toList_eq]
  have h1 := L_length s
  unfold L at h1
  cases h2 : s.data.toList with
  | nil =>
    rw [h2] at h1
    simp at h1
    omega
  | cons c r => rfl
theorem size_pos {s : ByteArray} (h : L s ≠ []) : 0 < s.size := by
  rw [← L_length]
  exact List.length_pos_iff.2 h
end Pl

theorem plain_walk (s : ByteArray) (w : World) (hs : s.size ≤ 140737488351232) :
    Calls Tryd.prog 86 #[.string s] w fun e w' => e = .returned (.bool (Pl.plainW (Pl.L s))) ∧ w = w' := by
  by_cases h48 : Pl.L s = [48]
  · obtain rfl : s = ⟨#[48]⟩ := Pl.ba_ext h48
    go_enter Tryd.func86, Tryd.ntmps86
    go_wp2_with fail
    go_ret
    exact ⟨Pl.ret1b (by rfl), rfl⟩
  · by_cases h0 : Pl.L s = []
    · obtain rfl : s = ⟨#[]⟩ := Pl.ba_ext h0
      go_enter Tryd.func86, Tryd.ntmps86
      go_wp2_with fail
      go_ret
      exact ⟨Pl.ret1b (by rfl), rfl⟩
    · have e48 := Pl.toL_ne h48
      have hsz := Pl.size_pos h0
      have he := Pl.toL_full hsz
      have H48 := Pl.hid h48
      clear h48 h0
      by_cases hc : (s[0]'hsz).toNat = 48
      · have HR := Pl.hid (Pl.plain_zero H48.out (by rw [Pl.head_L s hsz]; congr 1; exact UInt8.toNat_inj.1 hc))
        have hc' : (((s[0]'hsz).toNat : Int) == 48) = true := beq_iff_eq.2 (by omega)
        clear hc
        go_enter Tryd.func86, Tryd.ntmps86
        go_wp2_with fail
        go_ret
        exact ⟨Pl.ret1b HR.out.symm, rfl⟩
      · have hc' : (((s[0]'hsz).toNat : Int) == 48) = false := beq_eq_false_iff_ne.2 (by omega)
        have HC : Hid (s[0]'hsz ≠ 48) := fun e => hc (by rw [e]; rfl)
        clear hc
        go_enter Tryd.func86, Tryd.ntmps86
        go_wp2_with fail
        clear e48 he hc'
        go_loop [15] (fun i => ∃ k : Nat, k ≤ s.size ∧ i = .int .i64 k ∧ Hid (∀ j, (hj : j < s.size) → j < k → 48 ≤ (s[j]'hj).toNat ∧ (s[j]'hj).toNat ≤ 57)) (fun i => s.size - (intOf i).toNat)
        case atStart => exact ⟨0, Nat.zero_le _, rfl, fun j hj h => by omega⟩
        case round =>
          obtain ⟨k, hk, rfl, HK⟩ := hrel
          by_cases hlt : k < s.size
          · by_cases hd : 48 ≤ (s[k]'hlt).toNat ∧ (s[k]'hlt).toNat ≤ 57
            · obtain ⟨hd1, hd2⟩ := hd
              go_wp2_with fail
              go_round
              case rel => exact ⟨k + 1, by omega, by go_num, fun j hj h => by
                rcases Nat.lt_or_ge j k with h' | h'
                · exact HK.out j hj h'
                · obtain rfl : j = k := by omega
                  exact ⟨hd1, hd2⟩⟩
              case measure => simp [intOf]; omega
            · have HR := Pl.hid (Pl.plain_no (Pl.get_mem s k hlt) hd)
              rcases Nat.lt_or_ge (s[k]'hlt).toNat 48 with h1 | h1
              · clear hd
                go_wp2_with fail
                go_ret
                exact ⟨Pl.ret1b HR.out.symm, rfl⟩
              · have h2 : 57 < (s[k]'hlt).toNat := by omega
                clear hd
                go_wp2_with fail
                go_ret
                exact ⟨Pl.ret1b HR.out.symm, rfl⟩
          · have HR := Pl.hid (Pl.plain_yes (Pl.head_L s hsz) HC.out (Pl.allD_get fun j hj => HK.out j hj (by omega)))
            obtain rfl : k = s.size := by omega
            go_wp2_with fail
            go_ret
            exact ⟨Pl.ret1b HR.out.symm, rfl⟩
end Go.Proofs.YtakldjdohgmeiaaDoor
