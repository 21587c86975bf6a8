/- Contracts of the reference's readers of numbers (digits, above, Int, Uint). No condition but the form's reach. -/
import Derived.Test.YtenacajpgpkdnaaDoorDigE
namespace Go.Proofs.YtenacajpgpkdnaaDoor
open Go.RowKit
set_option maxRecDepth 20000

namespace Pl
def dgO (l : List UInt8) (m : Int) : Bool := plainW l && decide ((l.length : Int) ≤ m)
def dgN (l : List UInt8) (m : Int) : Int := if dgO l m = true then (num 0 l : Int) else 0
def dgH (l : List UInt8) (m : Int) : Int := dgN l m / 1000000000000
def dgL (l : List UInt8) (m : Int) : Int := dgN l m % 1000000000000
theorem dg_no {l : List UInt8} {m : Int} (h : dgO l m = false) : dgH l m = 0 ∧ dgL l m = 0 := by
  unfold dgH dgL dgN
  rw [h, if_neg (by decide)]
  decide
theorem dgO_plain {l : List UInt8} {m : Int} (h : plainW l = false) : dgO l m = false := by unfold dgO; rw [h]; rfl
theorem dgO_long {l : List UInt8} {m : Int} (h : ¬ (l.length : Int) ≤ m) : dgO l m = false := by unfold dgO; rw [decide_eq_false h, Bool.and_false]
theorem dgO_yes {l : List UInt8} {m : Int} (h : plainW l = true) (hm : (l.length : Int) ≤ m) : dgO l m = true := by unfold dgO; rw [h, decide_eq_true hm]; rfl
theorem dg_yes {l : List UInt8} {m a b : Int} (h : plainW l = true) (hm : (l.length : Int) ≤ m) (hab : a * 1000000000000 + b = (num 0 l : Int)) (h0 : 0 ≤ b) (h1 : b ≤ 999999999999) : dgH l m = a ∧ dgL l m = b := by
  unfold dgH dgL dgN
  rw [dgO_yes h hm, if_pos rfl]
  omega
theorem ret3iib {k l : IntKind} {a b c d : Int} {x y : Bool} (h : a = b) (h' : c = d) (h'' : x = y) : Ending.returned (.tuple #[.int k a, .int l c, .bool x]) = .returned (.tuple #[.int k b, .int l d, .bool y]) := by rw [h, h', h'']
/-- what the first digits count -/
def nk (l : List UInt8) (k : Nat) : Int := (num 0 (l.take k) : Int)
theorem nk_zero (l : List UInt8) : nk l 0 = 0 := rfl
theorem nk_all (l : List UInt8) : nk l l.length = (num 0 l : Int) := by unfold nk; rw [List.take_length]
theorem nk_step (s : ByteArray) (k : Nat) (h : k < s.size) (hd : 48 ≤ (s[k]'h).toNat) : nk (L s) (k + 1) = nk (L s) k * 10 + ((s[k]'h).toNat - 48) := by
  have h' : k < (L s).length := by rw [L_length]; exact h
  unfold nk
  rw [take_snoc _ _ h', num_snoc, L_get s k h]
  rw [L_get s k h] at hd
  omega
theorem nk_lt (s : ByteArray) (k : Nat) (hk : k ≤ 20) (h : ∀ j, (hj : j < s.size) → j < k → 48 ≤ (s[j]'hj).toNat ∧ (s[j]'hj).toNat ≤ 57) : 0 ≤ nk (L s) k ∧ nk (L s) k ≤ 99999999999999999999 := by
  have hd : allD ((L s).take k) := by
    intro c hc
    obtain ⟨j, hj, e⟩ := List.mem_iff_getElem.1 hc
    rw [List.length_take] at hj
    have hj' : j < s.size := by rw [← L_length]; omega
    have h1 := get_L s j hj'
    rw [List.getElem_take] at e
    rw [List.getElem?_eq_getElem (by rw [L_length]; exact hj')] at h1
    injection h1 with h1
    rw [← e, h1]
    exact h j hj' (by omega)
  have h1 := num_lt _ 0 0 hd (by decide)
  have h2 : 10 ^ (0 + ((L s).take k).length) ≤ 10 ^ 20 := Nat.pow_le_pow_right (by decide) (by rw [List.length_take]; omega)
  have h3 : (10 : Nat) ^ 20 = 100000000000000000000 := by decide
  unfold nk
  omega
end Pl

theorem digits_walk (s : ByteArray) (m : Int) (w : World) (hs : s.size ≤ 140737488351232) (hm0 : 1 ≤ m) (hm1 : m ≤ 20) :
    Calls Tryd.prog 77 #[.string s, .int .i64 m] w fun e w' => e = .returned (.tuple #[.int .u64 (Pl.dgH (Pl.L s) m), .int .u64 (Pl.dgL (Pl.L s) m), .bool (Pl.dgO (Pl.L s) m)]) ∧ w = w' := by
  by_cases h48 : Pl.L s = [48]
  · obtain rfl : s = ⟨#[48]⟩ := Pl.ba_ext h48
    have HO := Pl.hid (Pl.dgO_yes (l := [48]) (m := m) (by rfl) (by show (1 : Int) ≤ m; exact hm0))
    have HV := Pl.hid (Pl.dg_yes (l := [48]) (m := m) (a := 0) (b := 0) (by rfl) (by show (1 : Int) ≤ m; exact hm0) (by rfl) (by decide) (by decide))
    go_enter Tryd.func77, Tryd.ntmps77
    go_wp2_with fail
    go_ret3
    exact ⟨Pl.ret3iib HV.out.1.symm HV.out.2.symm HO.out.symm, rfl⟩
  · have e48 := Pl.toL_ne h48
    have H48 := Pl.hid h48
    have HLen := Pl.hid (Pl.L_length s)
    clear h48
    by_cases hlong : m < s.size
    · have HO := Pl.hid (Pl.dgO_long (l := Pl.L s) (m := m) (by rw [Pl.L_length]; omega))
      have HV := Pl.hid (Pl.dg_no HO.out)
      go_enter Tryd.func77, Tryd.ntmps77
      go_wp2_with fail
      go_ret3
      exact ⟨Pl.ret3iib HV.out.1.symm HV.out.2.symm HO.out.symm, rfl⟩
    · rcases Nat.eq_zero_or_pos s.size with h0 | hsz
      · have HO := Pl.hid (Pl.dgO_plain (l := Pl.L s) (m := m) (by rw [List.eq_nil_of_length_eq_zero (show (Pl.L s).length = 0 by rw [Pl.L_length]; exact h0)]; rfl))
        have HV := Pl.hid (Pl.dg_no HO.out)
        have h0' : s.size < 1 := by omega
        clear h0
        go_enter Tryd.func77, Tryd.ntmps77
        go_wp2_with fail
        go_ret3
        exact ⟨Pl.ret3iib HV.out.1.symm HV.out.2.symm HO.out.symm, rfl⟩
      · have hle : (s.size : Int) ≤ m := by omega
        clear hlong
        by_cases hc : (s[0]'hsz).toNat = 48
        · have HO := Pl.hid (Pl.dgO_plain (m := m) (Pl.plain_zero H48.out (by rw [Pl.head_L s hsz]; congr 1; exact UInt8.toNat_inj.1 hc)))
          have HV := Pl.hid (Pl.dg_no HO.out)
          have hc' : (((s[0]'hsz).toNat : Int) == 48) = true := beq_iff_eq.2 (by omega)
          clear hc
          go_enter Tryd.func77, Tryd.ntmps77
          go_wp2_with fail
          go_ret3
          exact ⟨Pl.ret3iib HV.out.1.symm HV.out.2.symm HO.out.symm, rfl⟩
        · have hc' : (((s[0]'hsz).toNat : Int) == 48) = false := beq_eq_false_iff_ne.2 (by omega)
          have HC : Hid (s[0]'hsz ≠ 48) := fun e => hc (by rw [e]; rfl)
          clear hc
          go_enter Tryd.func77, Tryd.ntmps77
          go_wp2_with fail
          clear e48 hc'
          go_loop [4, 5, 26] (fun h l i => ∃ (k : Nat) (a b : Int), k ≤ s.size ∧ i = .int .i64 k ∧ h = .int .u64 a ∧ l = .int .u64 b ∧ 0 ≤ a ∧ a ≤ 99999999 ∧ 0 ≤ b ∧ b ≤ 999999999999 ∧ Hid (a * 1000000000000 + b = Pl.nk (Pl.L s) k) ∧
            Hid (∀ j, (hj : j < s.size) → j < k → 48 ≤ (s[j]'hj).toNat ∧ (s[j]'hj).toNat ≤ 57)) (fun _ _ i => s.size - (intOf i).toNat)
          case atStart => exact ⟨0, 0, 0, Nat.zero_le _, rfl, rfl, rfl, by decide, by decide, by decide, by decide, rfl, fun j hj h => by omega⟩
          case round =>
            obtain ⟨k, a, b, hk, rfl, rfl, rfl, ha0, ha1, hb0, hb1, HN, HK⟩ := hrel
            by_cases hlt : k < s.size
            · by_cases hd : 48 ≤ (s[k]'hlt).toNat ∧ (s[k]'hlt).toNat ≤ 57
              · obtain ⟨hd1, hd2⟩ := hd
                have HK' : Hid (∀ j, (hj : j < s.size) → j < k + 1 → 48 ≤ (s[j]'hj).toNat ∧ (s[j]'hj).toNat ≤ 57) := fun j hj h => by
                  rcases Nat.lt_or_ge j k with h' | h'
                  · exact HK.out j hj h'
                  · obtain rfl : j = k := by omega
                    exact ⟨hd1, hd2⟩
                have HS := Pl.hid (Pl.nk_step s k hlt hd1)
                have HB := Pl.hid (Pl.nk_lt s (k + 1) (by omega) HK'.out)
                go_wp2_with fail
                go_round
                case rel =>
                  have hN := HN.out
                  have hS := HS.out
                  have hB := HB.out
                  exact ⟨k + 1, _, _, by omega, by go_num, rfl, rfl, by omega, by omega, by omega, by omega, (show _ = _ by rw [hS]; omega), HK'⟩
                case measure => simp [intOf]; omega
              · have HO := Pl.hid (Pl.dgO_plain (m := m) (Pl.plain_no (Pl.get_mem s k hlt) hd))
                have HV := Pl.hid (Pl.dg_no HO.out)
                rcases Nat.lt_or_ge (s[k]'hlt).toNat 48 with h1 | h1
                · clear hd
                  go_wp2_with fail
                  go_ret3
                  exact ⟨Pl.ret3iib HV.out.1.symm HV.out.2.symm HO.out.symm, rfl⟩
                · have h2 : 57 < (s[k]'hlt).toNat := by omega
                  clear hd
                  go_wp2_with fail
                  go_ret3
                  exact ⟨Pl.ret3iib HV.out.1.symm HV.out.2.symm HO.out.symm, rfl⟩
            · have HP := Pl.hid (Pl.plain_yes (Pl.head_L s hsz) HC.out (Pl.allD_get fun j hj => HK.out j hj (by omega)))
              obtain rfl : k = s.size := by omega
              have HO := Pl.hid (Pl.dgO_yes (m := m) HP.out (by rw [Pl.L_length]; exact hle))
              have HV := Pl.hid (Pl.dg_yes (m := m) (a := a) (b := b) HP.out (by rw [Pl.L_length]; exact hle) (by rw [HN.out, ← HLen.out, Pl.nk_all]) hb0 hb1)
              go_wp2_with fail
              go_ret3
              exact ⟨Pl.ret3iib HV.out.1.symm HV.out.2.symm HO.out.symm, rfl⟩
end Go.Proofs.YtenacajpgpkdnaaDoor
