/- Contracts of digit.Add and of the reference's Add: each returns 'Pl.addV', 'Pl.addC' of the two numbers. Conditions: both numbers fit 64 bits. -/
import Derived.Test.YtfelkiflknjkdaaPlain
import Derived.Test.YtfelkiflknjkdaaProg
namespace Go.Proofs.Ytfelkiflknjkdaa
open Go.RowKit

theorem add_walk (a b : Int) (w : World) (ha : Pl.In64 a) (hb : Pl.In64 b) :
    Calls Try.prog 12 #[.int .i64 a, .int .i64 b] w fun e w' => e = .returned (.tuple #[.int .i64 (Pl.addV a b), .int .i64 (Pl.addC a b)]) ∧ w = w' := by
  by_cases h : Pl.In64 (a + b)
  · have hn : ¬ (bits BinOp.and IntKind.i64 (bits BinOp.xor IntKind.i64 a (wrap64 (a + b))) (bits BinOp.xor IntKind.i64 b (wrap64 (a + b))) < 0) := fun hh => (Pl.over_iff a b ha hb).1 hh h
    have h0 := Pl.addV_in h
    have h1 := Pl.addC_in h
    have hw : wrap64 (a + b) = a + b := IntWalk.wrap64_in _ h
    have Hw := Pl.hid hw
    have H0 := Pl.hid h0
    have H1 := Pl.hid h1
    clear h0 h1 hw ha hb h
    go_enter Try.func12, Try.ntmps12
    go_wp2
    go_ret2
    exact ⟨Pl.ret2ii (by rw [H0.out, Hw.out]) H1.out.symm, rfl⟩
  · have hn : (bits BinOp.and IntKind.i64 (bits BinOp.xor IntKind.i64 a (wrap64 (a + b))) (bits BinOp.xor IntKind.i64 b (wrap64 (a + b))) < 0) := (Pl.over_iff a b ha hb).2 h
    have H0 := Pl.hid (Pl.addV_out h)
    have H1 := Pl.hid (Pl.addC_out h)
    clear ha hb h
    go_enter Try.func12, Try.ntmps12
    go_wp2
    go_ret2
    exact ⟨Pl.ret2ii H0.out.symm H1.out.symm, rfl⟩

theorem refadd_walk (a b : Int) (w : World) (ha : Pl.In64 a) (hb : Pl.In64 b) :
    Calls Try.prog 13 #[.int .i64 a, .int .i64 b] w fun e w' => e = .returned (.tuple #[.int .i64 (Pl.addV a b), .int .i64 (Pl.addC a b)]) ∧ w = w' := by
  obtain ⟨a1, a2⟩ := ha
  obtain ⟨b1, b2⟩ := hb
  by_cases h : -9223372036854775808 ≤ a + b ∧ a + b ≤ 9223372036854775807
  · have hw : wrap64 (a + b) = a + b := IntWalk.wrap64_in _ h
    have Hw := Pl.hid hw
    have H0 := Pl.hid (Pl.addV_in h)
    have H1 := Pl.hid (Pl.addC_in h)
    clear hw
    obtain ⟨h3, h4⟩ := h
    by_cases c1 : 0 < b
    · go_enter Try.func13, Try.ntmps13
      go_wp2
      go_ret2
      exact ⟨Pl.ret2ii H0.out.symm H1.out.symm, rfl⟩
    · by_cases c2 : b < 0
      · go_enter Try.func13, Try.ntmps13
        go_wp2
        go_ret2
        exact ⟨Pl.ret2ii H0.out.symm H1.out.symm, rfl⟩
      · go_enter Try.func13, Try.ntmps13
        go_wp2
        go_ret2
        exact ⟨Pl.ret2ii H0.out.symm H1.out.symm, rfl⟩
  · have H0 := Pl.hid (Pl.addV_out h)
    have H1 := Pl.hid (Pl.addC_out h)
    by_cases c1 : 0 < b
    · have c3 : 9223372036854775807 - b < a := by omega
      clear h
      go_enter Try.func13, Try.ntmps13
      go_wp2
      go_ret2
      exact ⟨Pl.ret2ii H0.out.symm H1.out.symm, rfl⟩
    · have c2 : b < 0 := by omega
      have c3 : a < -9223372036854775808 - b := by omega
      clear h
      go_enter Try.func13, Try.ntmps13
      go_wp2
      go_ret2
      exact ⟨Pl.ret2ii H0.out.symm H1.out.symm, rfl⟩
end Go.Proofs.Ytfelkiflknjkdaa
