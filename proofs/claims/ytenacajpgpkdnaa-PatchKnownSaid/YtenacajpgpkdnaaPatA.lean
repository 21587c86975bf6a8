/- Contracts of patch's and its reference's small functions: Slice, at. Conditions: numbers of 64 bits; texts within the form's reach. -/
import Derived.Test.YtenacajpgpkdnaaDigB
import Derived.Test.YtenacajpgpkdnaaMem
namespace Go.Proofs.Ytenacajpgpkdnaa
open Go.RowKit

theorem span_nat (a b : Int) (n : Nat) (w : World) (ha : Pl.In64 a) (hb : Pl.In64 b) (hn : n ≤ 9223372036854775807) :
    Calls Try.prog 14 #[.int .i64 a, .int .i64 b, .int .i64 (n : Int)] w fun e w' => e = .returned (.tuple #[.int .i64 (Pl.sF a b n : Int), .int .i64 (Pl.sT a b n : Int)]) ∧ w = w' := by
  obtain ⟨_, _, h1, h2⟩ := Pl.sFT a b n
  rw [← h1, ← h2]
  exact span_walk a b n w ha hb ⟨by omega, by omega⟩
theorem refspan_nat (a b : Int) (n : Nat) (w : World) (ha : Pl.In64 a) (hb : Pl.In64 b) (hn : n ≤ 9223372036854775807) :
    Calls Try.prog 15 #[.int .i64 a, .int .i64 b, .int .i64 (n : Int)] w fun e w' => e = .returned (.tuple #[.int .i64 (Pl.sF a b n : Int), .int .i64 (Pl.sT a b n : Int)]) ∧ w = w' := by
  obtain ⟨_, _, h1, h2⟩ := Pl.sFT a b n
  rw [← h1, ← h2]
  exact refspan_walk a b n w ha hb ⟨by omega, by omega⟩

theorem at_walk (s : ByteArray) (i : Int) (w : World) (h0 : 0 ≤ i) (h1 : i ≤ 9223372036854775807) :
    Calls Try.prog 33 #[.string s, .int .i64 i] w fun e w' => e = .returned (.int .u8 (Pl.at_ (Pl.L s) i.toNat)) ∧ w = w' := by
  obtain ⟨k, rfl⟩ := Int.eq_ofNat_of_zero_le h0
  rw [Int.toNat_natCast]
  by_cases h : k < s.size
  · have H := Pl.hid (Pl.at_in s k h)
    go_enter Try.func33, Try.ntmps33
    go_wp2
    go_ret
    exact ⟨Pl.ret1i H.out, rfl⟩
  · have H := Pl.hid (Pl.at_out (Pl.L s) k (by rw [Pl.L_length]; omega))
    go_enter Try.func33, Try.ntmps33
    go_wp2
    go_ret
    exact ⟨Pl.ret1i H.out.symm, rfl⟩

theorem slice_walk (s : ByteArray) (a b : Int) (w : World) (ha : Pl.In64 a) (hb : Pl.In64 b) (hs : s.size ≤ 9223372036854775807) :
    Calls Try.prog 24 #[.string s, .int .i64 a, .int .i64 b] w fun e w' => e = .returned (.string (Pl.B (Pl.slcL (Pl.L s) a b))) ∧ w = w' := by
  have HA := Pl.hid ha
  have HB := Pl.hid hb
  clear ha hb
  have HR : Hid (s.extract (Pl.sF a b s.size) (Pl.sT a b s.size) = Pl.B (Pl.slcL (Pl.L s) a b)) := Pl.slcL_eq s a b
  have h1 := (Pl.sFT a b s.size).1
  have h2 := (Pl.sFT a b s.size).2.1
  go_enter Try.func24, Try.ntmps24
  go_wp2_with fail
  refine (span_nat _ _ _ _ HA.out HB.out hs).mono ?_
  rintro e w' ⟨rfl, rfl⟩
  go_wp2_with fail
  go_ret
  exact ⟨Pl.ret1s HR.out, rfl⟩

theorem refslice_walk (s : ByteArray) (a b : Int) (w : World) (ha : Pl.In64 a) (hb : Pl.In64 b) (hs : s.size ≤ 140737488351232) :
    Calls Try.prog 22 #[.string s, .int .i64 a, .int .i64 b] w fun e w' => e = .returned (.string (Pl.B (Pl.slcL (Pl.L s) a b))) ∧ Below w.heap.size w w' := by
  have HA := Pl.hid ha
  have HB := Pl.hid hb
  clear ha hb
  have h1 := (Pl.sFT a b s.size).1
  have h2 := (Pl.sFT a b s.size).2.1
  obtain ⟨f, hf⟩ : ∃ f, f = Pl.sF a b s.size := ⟨_, rfl⟩
  obtain ⟨t, ht⟩ : ∃ t, t = Pl.sT a b s.size := ⟨_, rfl⟩
  rw [← hf, ← ht] at h1
  rw [← ht] at h2
  have HR : Hid (Pl.slc (Pl.L s) f t = Pl.slcL (Pl.L s) a b) := by rw [hf, ht]; exact Pl.slcL_eq' s a b
  have HF := Pl.hid hf
  have HT := Pl.hid ht
  clear hf ht
  go_enter Try.func22, Try.ntmps22
  go_wp2_with fail
  refine (refspan_nat _ _ _ _ HA.out HB.out (by omega)).mono ?_
  rw [← HF.out, ← HT.out]
  rintro e w' ⟨rfl, rfl⟩
  go_wp2_with (at_make; refine Mm.wp_make0 _ rfl _ _ rfl _ rfl rfl (by omega) (by omega) ?_; intro v0 w1 hown0 hb0)
  have HW := Pl.hid hown0
  clear hown0
  go_loopw [9, 10] (fun v i wr => ∃ k : Nat, f ≤ k ∧ k ≤ t ∧ i = .int .i64 k ∧ Mm.OwnB wr w.heap.size v (Pl.slc (Pl.L s) f k) ∧ Below w.heap.size w wr) (fun _ i _ => t - (intOf i).toNat)
  case atStart => exact ⟨f, Nat.le_refl _, h1, rfl, by rw [Pl.slc_nil]; exact HW.out, hb0⟩
  case round =>
    obtain ⟨k, hk1, hk2, rfl, hown, hbel⟩ := hrel
    by_cases hlt : k < t
    · have HO := Pl.hid hown
      have HBel := Pl.hid hbel
      have hks : k < s.size := by omega
      have HG := Pl.hid (Pl.L_get s k hks)
      have HS := Pl.hid (Pl.slc_snoc (Pl.L s) f k hk1 (by rw [Pl.L_length]; omega))
      have HL := Pl.hid (show (Pl.slc (Pl.L s) f k).length < 140737488355328 by rw [Pl.slc_length _ _ _ hk1 (by rw [Pl.L_length]; omega)]; omega)
      clear hown hbel
      go_wp2_with (at_builtin; refine Mm.wp_app1 _ rfl _ _ (by rfl) w.heap.size _ _ (s[k]) (by rfl) (by rfl) HO.out HL.out HBel.out.size ?_; intro v1 w1 hown1 hb1)
      have HO1 := Pl.hid hown1
      have HB1 := Pl.hid hb1
      clear hown1 hb1
      go_roundw
      case rel => exact ⟨k + 1, by omega, by omega, by go_num, by rw [HS.out, ← HG.out]; exact HO1.out, HBel.out.trans HB1.out⟩
      case measure => simp [intOf]; omega
    · obtain rfl : k = t := by omega
      have hcv := Mm.run_str _ _ _ _ hown
      have HBel := Pl.hid hbel
      clear hown hbel
      go_wp2
      go_ret
      exact ⟨Pl.ret1s (Pl.B_congr HR.out), HBel.out⟩
end Go.Proofs.Ytenacajpgpkdnaa
