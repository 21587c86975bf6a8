/- Contracts of patch.Bit and its reference. Conditions: texts of at most 2^63 - 1 bytes; numbers of 64 bits. -/
import Derived.Test.YtenacajpgpkdnaaPatB
import Derived.Test.YtenacajpgpkdnaaPlainP
namespace Go.Proofs.Ytenacajpgpkdnaa
open Go.RowKit

theorem refBit_walk (s : ByteArray) (i : Int) (w : World) :
    Calls Try.prog 26 #[.string s, .int .i64 i] w fun e w' => e = .returned (.tuple #[.int .i64 (Pl.bitV (Pl.L s) i), .int .i64 (Pl.bitC i)]) ∧ w = w' := by
  by_cases h : 0 ≤ i ∧ i < 1073741824
  · have H0 := Pl.hid (Pl.bitV_in (l := Pl.L s) h)
    have H1 := Pl.hid (Pl.bitC_in h)
    have h0 : 0 ≤ i := h.1
    have h1 : i ≤ 1073741823 := by omega
    clear h
    go_enter Try.func26, Try.ntmps26
    go_wp2_with fail
    refine (refbit_int _ _ _ h0 (by omega)).mono ?_
    rintro e w' ⟨rfl, rfl⟩
    go_wp2_with fail
    go_ret2
    exact ⟨Pl.ret2ii H0.out.symm H1.out.symm, rfl⟩
  · have H0 := Pl.hid (Pl.bitV_out (l := Pl.L s) h)
    have H1 := Pl.hid (Pl.bitC_out h)
    rcases Int.lt_or_le i 0 with c | c
    · clear h
      go_enter Try.func26, Try.ntmps26
      go_wp2_with fail
      go_ret2
      exact ⟨Pl.ret2ii H0.out.symm H1.out.symm, rfl⟩
    · have c2 : 1073741824 ≤ i := by omega
      clear h
      go_enter Try.func26, Try.ntmps26
      go_wp2_with fail
      go_ret2
      exact ⟨Pl.ret2ii H0.out.symm H1.out.symm, rfl⟩

theorem bit_walk (s : ByteArray) (i : Int) (w : World) :
    Calls Try.prog 27 #[.string s, .int .i64 i] w fun e w' => e = .returned (.tuple #[.int .i64 (Pl.bitV (Pl.L s) i), .int .i64 (Pl.bitC i)]) ∧ Below w.heap.size w w' := by
  by_cases h : 0 ≤ i ∧ i < 1073741824
  · have H0 := Pl.hid (Pl.bitV_in (l := Pl.L s) h)
    have H1 := Pl.hid (Pl.bitC_in h)
    have h0 : 0 ≤ i := h.1
    have h1 : i ≤ 1073741823 := by omega
    clear h
    by_cases c : (i / 8).toNat < s.size
    · have HI := Pl.hid (Pl.at_in s (i / 8).toNat c)
      have HX := Pl.hid h0
      go_enter Try.func27, Try.ntmps27
      go_wp2_with fail
      refine (place_bit _ _ (by omega) (by omega)).mono ?_
      rintro e w' ⟨rfl, hb⟩
      have HB := Pl.hid hb
      clear hb
      go_wp2_with fail
      · have ht : (bits BinOp.and IntKind.u8 (s[(i / 8).toNat].toNat : Int) (Pl.msk (i % 8).toNat) != 0) = true := by assumption
        go_ret2
        exact ⟨Pl.ret2ii (by rw [H0.out, Pl.bit_yes HX.out HI.out ht]) H1.out.symm, HB.out⟩
      · have ht : (bits BinOp.and IntKind.u8 (s[(i / 8).toNat].toNat : Int) (Pl.msk (i % 8).toNat) != 0) = false := by assumption
        go_ret2
        exact ⟨Pl.ret2ii (by rw [H0.out, Pl.bit_no HX.out HI.out ht]) H1.out.symm, HB.out⟩
    · have HF := Pl.hid (Pl.bit_farI (l := Pl.L s) h0 (by rw [Pl.L_length]; omega))
      go_enter Try.func27, Try.ntmps27
      go_wp2_with fail
      refine (place_bit _ _ (by omega) (by omega)).mono ?_
      rintro e w' ⟨rfl, hb⟩
      have HB := Pl.hid hb
      clear hb
      go_wp2_with fail
      go_ret2
      exact ⟨Pl.ret2ii (by rw [H0.out, HF.out]) H1.out.symm, HB.out⟩
  · have H0 := Pl.hid (Pl.bitV_out (l := Pl.L s) h)
    have H1 := Pl.hid (Pl.bitC_out h)
    rcases Int.lt_or_le i 0 with c | c
    · clear h
      go_enter Try.func27, Try.ntmps27
      go_wp2_with fail
      go_ret2
      exact ⟨Pl.ret2ii H0.out.symm H1.out.symm, Below.refl _ _⟩
    · have c2 : 1073741824 ≤ i := by omega
      clear h
      go_enter Try.func27, Try.ntmps27
      go_wp2_with fail
      go_ret2
      exact ⟨Pl.ret2ii H0.out.symm H1.out.symm, Below.refl _ _⟩

theorem join_walk (s v : ByteArray) (w : World) (hs : s.size ≤ 140737488351232) (hv : v.size ≤ 140737488351232) :
    Calls Try.prog 21 #[.string s, .string v] w fun e w' => e = .returned (.tuple #[.string (Pl.joinS s v), .int .i64 (Pl.joinC s v)]) ∧ w = w' := by
  by_cases h : 1048576 < (s.size : Int) + (v.size : Int)
  · have H0 : Hid (Pl.joinS s v = { data := #[] }) := if_pos h
    have H1 : Hid (Pl.joinC s v = 2) := if_pos h
    go_enter Try.func21, Try.ntmps21
    go_wp2_with fail
    go_ret2
    exact ⟨Pl.ret2si H0.out.symm H1.out.symm, rfl⟩
  · have H0 : Hid (Pl.joinS s v = s ++ v) := if_neg h
    have H1 : Hid (Pl.joinC s v = 0) := if_neg h
    go_enter Try.func21, Try.ntmps21
    go_wp2_with fail
    go_ret2
    exact ⟨Pl.ret2si H0.out.symm H1.out.symm, rfl⟩

theorem refjoin_walk (s v : ByteArray) (w : World) (hs : s.size ≤ 140737488351232) (hv : v.size ≤ 140737488351232) :
    Calls Try.prog 20 #[.string s, .string v] w fun e w' => e = .returned (.tuple #[.string (Pl.joinS s v), .int .i64 (Pl.joinC s v)]) ∧ w = w' := by
  by_cases h : 1048576 < (s.size : Int) + (v.size : Int)
  · have H0 : Hid (Pl.joinS s v = { data := #[] }) := if_pos h
    have H1 : Hid (Pl.joinC s v = 2) := if_pos h
    go_enter Try.func20, Try.ntmps20
    go_wp2_with fail
    go_ret2
    exact ⟨Pl.ret2si H0.out.symm H1.out.symm, rfl⟩
  · have H0 : Hid (Pl.joinS s v = s ++ v) := if_neg h
    have H1 : Hid (Pl.joinC s v = 0) := if_neg h
    go_enter Try.func20, Try.ntmps20
    go_wp2_with fail
    go_ret2
    exact ⟨Pl.ret2si H0.out.symm H1.out.symm, rfl⟩
end Go.Proofs.Ytenacajpgpkdnaa
