/- Contracts of patch.Ones and its reference: how many bits of a stretch are ones. Conditions: texts within the form's reach; numbers of 64 bits. -/
import Derived.Test.YtenacajpgpkdnaaPatB
import Derived.Test.YtenacajpgpkdnaaPlainP
import Derived.Test.YtenacajpgpkdnaaShelf
namespace Go.Proofs.Ytenacajpgpkdnaa
open Go.RowKit

theorem count8 (x : Int) (w : World) (h0 : 0 ≤ x) (h1 : x ≤ 255) : Calls Try.prog 36 #[.int .u8 x] w fun e w' => e = .returned (.int .i64 (Pl.ones8 x)) ∧ w = w' :=
  (Try.bits_OnesCount8 x w h0 h1).mono fun _ _ ⟨h, h'⟩ => ⟨by rw [h, Pl.ones_byte x h0 h1], h'.symm⟩

theorem ones_walk (s : ByteArray) (a b : Int) (w : World) (ha : Pl.In64 a) (hb : Pl.In64 b) (hs : s.size ≤ 140737488351232) :
    Calls Try.prog 25 #[.string s, .int .i64 a, .int .i64 b] w fun e w' => e = .returned (.int .i64 (Pl.onesL (Pl.L s) a b)) ∧ Below w.heap.size w w' := by
  have HA := Pl.hid ha
  have HB := Pl.hid hb
  clear ha hb
  obtain ⟨l, hl⟩ : ∃ l, l = Pl.slcL (Pl.L s) a b := ⟨_, rfl⟩
  have hlen : (Pl.B l).size ≤ 140737488351232 := by
    rw [Pl.B_size, hl]; have := Pl.slcL_le s a b; omega
  have HE : Hid (Pl.onesL (Pl.L s) a b = Pl.onesT l (Pl.B l).size) := by show _ = _; rw [Pl.B_size, hl]; rfl
  have HL := Pl.hid hl
  clear hl
  go_enter Try.func25, Try.ntmps25
  go_wp2_with fail
  refine (slice_walk _ _ _ _ HA.out HB.out (by omega)).mono ?_
  rw [← HL.out]
  rintro e w' ⟨rfl, rfl⟩
  go_wp2_with (refine Mm.wp_tobytes _ rfl _ (by rfl) (Pl.B l) (by rfl) ?_; intro c w1 hc hz hcell hfz hbel)
  obtain ⟨n, hn⟩ : ∃ n, n = (Pl.B l).size := ⟨_, rfl⟩
  rw [← hn] at hlen hcell hc ⊢
  have HN := Pl.hid hn
  have HC := Pl.hid hcell
  have HBel := Pl.hid hbel
  clear hn hcell hbel hfz hz
  go_loop [7, 16] (fun t i => ∃ k : Nat, k ≤ n ∧ i = .int .i64 k ∧ t = .int .i64 (Pl.onesT l k)) (fun _ i => n - (intOf i).toNat)
  case atStart => exact ⟨0, Nat.zero_le _, rfl, rfl⟩
  case round =>
    obtain ⟨k, hk, rfl, rfl⟩ := hrel
    obtain ⟨hb0, hb1⟩ := Pl.onesT_bd l k
    by_cases hlt : k < n
    · have hc1 := HC.out k hlt
      rw [Pl.L_B] at hc1
      obtain ⟨hx0, hx1⟩ := Pl.at_bd l k
      obtain ⟨hy0, hy1⟩ := Pl.ones8_bd (Pl.at_ l k)
      go_wp2_with (go_at_call 36; refine (count8 _ _ hx0 hx1).mono ?_; rintro e w' ⟨rfl, rfl⟩)
      go_round
      case rel => exact ⟨k + 1, by omega, by go_num, by rfl⟩
      case measure => simp [intOf]; omega
    · obtain rfl : k = n := by omega
      go_wp2
      go_ret
      exact ⟨Pl.ret1i (by rw [HE.out, HN.out]), HBel.out⟩

theorem refones_walk (s : ByteArray) (a b : Int) (w : World) (ha : Pl.In64 a) (hb : Pl.In64 b) (hs : s.size ≤ 140737488351232) :
    Calls Try.prog 23 #[.string s, .int .i64 a, .int .i64 b] w fun e w' => e = .returned (.int .i64 (Pl.onesL (Pl.L s) a b)) ∧ Below w.heap.size w w' := by
  have HA := Pl.hid ha
  have HB := Pl.hid hb
  clear ha hb
  obtain ⟨l, hl⟩ : ∃ l, l = Pl.slcL (Pl.L s) a b := ⟨_, rfl⟩
  have hlen : (Pl.B l).size ≤ 140737488351232 := by
    rw [Pl.B_size, hl]; have := Pl.slcL_le s a b; omega
  have HE : Hid (Pl.onesL (Pl.L s) a b = Pl.bitsT l (8 * (Pl.B l).size)) := by show _ = _; rw [Pl.B_size, hl, Pl.bitsT_eq]; rfl
  have HL := Pl.hid hl
  clear hl
  go_enter Try.func23, Try.ntmps23
  go_wp2_with fail
  refine (refslice_walk _ _ _ _ HA.out HB.out (by omega)).mono ?_
  rw [← HL.out]
  rintro e w1 ⟨rfl, hbel⟩
  have HBel := Pl.hid hbel
  clear hbel
  go_wp2_with fail
  obtain ⟨n, hn⟩ : ∃ n, n = (Pl.B l).size := ⟨_, rfl⟩
  rw [← hn] at hlen ⊢
  have HN := Pl.hid hn
  clear hn
  go_loop [8, 17] (fun t i => ∃ k : Nat, k ≤ 8 * n ∧ i = .int .i64 k ∧ t = .int .i64 (Pl.bitsT l k)) (fun _ i => 8 * n - (intOf i).toNat)
  case atStart => exact ⟨0, Nat.zero_le _, rfl, rfl⟩
  case round =>
    obtain ⟨k, hk, rfl, rfl⟩ := hrel
    obtain ⟨hb0, hb1⟩ := Pl.bitsT_bd l k
    by_cases hlt : k < 8 * n
    · have HX := Pl.hid (Pl.L_B l)
      have hy := Pl.bitL_01 l k
      have hy0 : 0 ≤ Pl.bitL l k := by omega
      have hy1 : Pl.bitL l k ≤ 1 := by omega
      clear hy
      go_wp2_with (go_at_call 35; refine (refbit_walk _ _ _ (by omega)).mono ?_; rw [HX.out]; rintro e w' ⟨rfl, rfl⟩)
      go_round
      case rel => exact ⟨k + 1, by omega, by go_num, by rfl⟩
      case measure => simp [intOf]; omega
    · have hkn : Hid (k = 8 * n) := by show _ = _; omega
      go_wp2
      go_ret
      exact ⟨Pl.ret1i (by rw [HE.out, ← HN.out, hkn.out]), HBel.out⟩
end Go.Proofs.Ytenacajpgpkdnaa
