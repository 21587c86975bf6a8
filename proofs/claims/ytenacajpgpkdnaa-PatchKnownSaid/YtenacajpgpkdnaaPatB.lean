/- Contracts of patch's and its reference's functions on bits. Conditions: texts of at most 2^63 - 1 bytes. -/
import Derived.Test.YtenacajpgpkdnaaPatA
import Derived.Deep.QuietTactic
import Derived.BigQuiet
namespace Go.Proofs.Ytenacajpgpkdnaa
open Go.RowKit

theorem refbit_walk (s : ByteArray) (i : Nat) (w : World) (h1 : i ≤ 9223372036854775807) :
    Calls Try.prog 35 #[.string s, .int .i64 (i : Int)] w fun e w' => e = .returned (.int .i64 (Pl.bitL (Pl.L s) i)) ∧ w = w' := by
  obtain ⟨hb0, hb1⟩ := Pl.at_bd (Pl.L s) (i / 8)
  have HT : Hid (((i : Int) / 8).toNat = i / 8) := by show _ = _; omega
  go_enter Try.func35, Try.ntmps35
  go_wp2_with fail
  refine (at_walk _ _ _ (by omega) (by omega)).mono ?_
  rw [HT.out]
  rintro e w' ⟨rfl, rfl⟩
  go_wp2_with fail
  go_loop [5, 14] (fun c j => ∃ k : Nat, (k : Int) ≤ 7 - (i : Int) % 8 ∧ j = .int .i64 k ∧ c = .int .i64 (Pl.at_ (Pl.L s) (i / 8) / 2 ^ k)) (fun _ j => 8 - (intOf j).toNat)
  case atStart => exact ⟨0, by omega, rfl, by rw [Pl.half_zero]⟩
  case round =>
    obtain ⟨k, hk, rfl, rfl⟩ := hrel
    obtain ⟨hc0, hc1⟩ := Pl.half_bd _ hb0 hb1 k
    have HH := Pl.hid (Pl.half_half (Pl.at_ (Pl.L s) (i / 8)) k)
    by_cases hlt : (k : Int) < 7 - (i : Int) % 8
    · go_wp2
      go_round
      case rel => exact ⟨k + 1, by omega, by go_num, by rw [HH.out]⟩
      case measure => simp [intOf]; omega
    · have HK : Hid (k = 7 - i % 8) := by show _ = _; omega
      go_wp2
      go_ret
      exact ⟨Pl.ret1i (by rw [HK.out]; rfl), rfl⟩

theorem refbit_int (s : ByteArray) (i : Int) (w : World) (h0 : 0 ≤ i) (h1 : i ≤ 9223372036854775807) :
    Calls Try.prog 35 #[.string s, .int .i64 i] w fun e w' => e = .returned (.int .i64 (Pl.bitL (Pl.L s) i.toNat)) ∧ w = w' := by
  obtain ⟨k, rfl⟩ := Int.eq_ofNat_of_zero_le h0
  rw [Int.toNat_natCast]
  exact refbit_walk s k w (by omega)

theorem place_bit (i : Int) (w : World) (h0 : 0 ≤ i) (h1 : i < 1073741824) :
    Calls Try.prog 37 #[.int .i64 i] w fun e w' => e = .returned (.tuple #[.int .i64 (i / 8), .int .u8 (Pl.msk (i % 8).toNat)]) ∧ Below w.heap.size w w' := by
  go_enter Try.func37, Try.ntmps37
  go_wp2_with fail
  go_quiet (fail)
  go_wp2
  go_ret2
  exact ⟨Pl.ret2ii rfl (Pl.msk_eq _), Mm.below_drewN _ _⟩
end Go.Proofs.Ytenacajpgpkdnaa
