/- Contracts of digit.Add, digit.Span, digit.Place (the layer alone, without the reference). Conditions: the numbers fit 64 bits. -/
import Derived.Test.YtenacajpgpkdnaaDoorPlain
import Derived.Test.YtenacajpgpkdnaaDoorProg
namespace Go.Proofs.YtenacajpgpkdnaaDoor
open Go.RowKit
set_option maxRecDepth 20000

theorem add_walk (a b : Int) (w : World) (ha : Pl.In64 a) (hb : Pl.In64 b) :
    Calls Tryd.prog 53 #[.int .i64 a, .int .i64 b] w fun e w' => e = .returned (.tuple #[.int .i64 (Pl.addV a b), .int .i64 (Pl.addC a b)]) ∧ w = w' := by
  by_cases h : Pl.In64 (a + b)
  · have hn : ¬ (bits BinOp.and IntKind.i64 (bits BinOp.xor IntKind.i64 a (wrap64 (a + b))) (bits BinOp.xor IntKind.i64 b (wrap64 (a + b))) < 0) := fun hh => (Pl.over_iff a b ha hb).1 hh h
    have h0 := Pl.addV_in h
    have h1 := Pl.addC_in h
    have hw : wrap64 (a + b) = a + b := IntWalk.wrap64_in _ h
    have Hw := Pl.hid hw
    have H0 := Pl.hid h0
    have H1 := Pl.hid h1
    clear h0 h1 hw ha hb h
    go_enter Tryd.func53, Tryd.ntmps53
    go_wp2
    go_ret2
    exact ⟨Pl.ret2ii (by rw [H0.out, Hw.out]) H1.out.symm, rfl⟩
  · have hn : (bits BinOp.and IntKind.i64 (bits BinOp.xor IntKind.i64 a (wrap64 (a + b))) (bits BinOp.xor IntKind.i64 b (wrap64 (a + b))) < 0) := (Pl.over_iff a b ha hb).2 h
    have H0 := Pl.hid (Pl.addV_out h)
    have H1 := Pl.hid (Pl.addC_out h)
    clear ha hb h
    go_enter Tryd.func53, Tryd.ntmps53
    go_wp2
    go_ret2
    exact ⟨Pl.ret2ii H0.out.symm H1.out.symm, rfl⟩

theorem fromEnd_walk (i n : Int) (w : World) (hi : Pl.In64 i) (h0 : 0 ≤ n) (h1 : n ≤ 9223372036854775807) :
    Calls Tryd.prog 80 #[.int .i64 i, .int .i64 n] w fun e w' => e = .returned (.int .i64 (Pl.cnt i n)) ∧ w = w' := by
  obtain ⟨i1, i2⟩ := hi
  by_cases h : i < 0
  · have H := Pl.hid (Pl.cnt_neg (n := n) h)
    go_enter Tryd.func80, Tryd.ntmps80
    go_wp2
    go_ret
    exact ⟨Pl.ret1i H.out.symm, rfl⟩
  · have H := Pl.hid (Pl.cnt_pos (n := n) (Int.not_lt.1 h))
    go_enter Tryd.func80, Tryd.ntmps80
    go_wp2
    go_ret
    exact ⟨Pl.ret1i H.out.symm, rfl⟩

theorem span_walk (a b n : Int) (w : World) (ha : Pl.In64 a) (hb : Pl.In64 b) (hn : Pl.In64 n) :
    Calls Tryd.prog 50 #[.int .i64 a, .int .i64 b, .int .i64 n] w fun e w' => e = .returned (.tuple #[.int .i64 (Pl.spF a b n), .int .i64 (Pl.spT a b n)]) ∧ w = w' := by
  have HA := Pl.hid ha
  have HB := Pl.hid hb
  clear ha hb
  obtain ⟨n1, n2⟩ := hn
  rcases Int.lt_or_le n 0 with hlt | hge
  · have Hnn : Hid (Pl.nn n = 0) := if_pos hlt
    have HX := Pl.hid (Pl.cnt_in HA.out (n := 0) (by omega) (by omega))
    have HY := Pl.hid (Pl.cnt_in HB.out (n := 0) (by omega) (by omega))
    go_enter Tryd.func50, Tryd.ntmps50
    go_wp2_with fail
    refine (fromEnd_walk _ _ _ HA.out (by omega) (by omega)).mono ?_
    rintro e w' ⟨rfl, rfl⟩
    obtain ⟨x1, x2⟩ := HX.out
    go_wp2_with fail
    all_goals
      refine (fromEnd_walk _ _ _ HB.out (by omega) (by omega)).mono ?_
      rintro e w' ⟨rfl, rfl⟩
      obtain ⟨y1, y2⟩ := HY.out
      go_wp2_with fail
    all_goals
      go_ret2
      refine ⟨Pl.ret2ii ?_ ?_, rfl⟩
      · unfold Pl.spF; rw [Hnn.out]; (repeat' split) <;> omega
      · unfold Pl.spT; rw [Hnn.out]; (repeat' split) <;> omega
  · have Hnn : Hid (Pl.nn n = n) := if_neg (by omega)
    have HX := Pl.hid (Pl.cnt_in HA.out hge n2)
    have HY := Pl.hid (Pl.cnt_in HB.out hge n2)
    go_enter Tryd.func50, Tryd.ntmps50
    go_wp2_with fail
    refine (fromEnd_walk _ _ _ HA.out (by omega) (by omega)).mono ?_
    rintro e w' ⟨rfl, rfl⟩
    obtain ⟨x1, x2⟩ := HX.out
    go_wp2_with fail
    all_goals
      refine (fromEnd_walk _ _ _ HB.out (by omega) (by omega)).mono ?_
      rintro e w' ⟨rfl, rfl⟩
      obtain ⟨y1, y2⟩ := HY.out
      go_wp2_with fail
    all_goals
      go_ret2
      refine ⟨Pl.ret2ii ?_ ?_, rfl⟩
      · unfold Pl.spF; rw [Hnn.out]; (repeat' split) <;> omega
      · unfold Pl.spT; rw [Hnn.out]; (repeat' split) <;> omega

theorem place_walk (i n : Int) (w : World) (ha : Pl.In64 i) (hn : Pl.In64 n) :
    Calls Tryd.prog 51 #[.int .i64 i, .int .i64 n] w fun e w' => e = .returned (.tuple #[.int .i64 (Pl.plV i n), .bool (Pl.plB i n)]) ∧ w = w' := by
  have HA := Pl.hid ha
  clear ha
  obtain ⟨n1, n2⟩ := hn
  rcases Int.lt_or_le n 0 with hlt | hge
  · have Hnn : Hid (Pl.nn n = 0) := if_pos hlt
    have HX := Pl.hid (Pl.cnt_in HA.out (n := 0) (by omega) (by omega))
    rcases Int.lt_or_le (Pl.cnt i 0) 0 with c1 | c1
    · have HV : Hid (Pl.plV i n = 0) := by unfold Pl.plV; rw [Hnn.out]; exact if_neg (by omega)
      have HB : Hid (Pl.plB i n = false) := by unfold Pl.plB; rw [Hnn.out]; exact decide_eq_false (by omega)
      go_enter Tryd.func51, Tryd.ntmps51
      go_wp2_with fail
      refine (fromEnd_walk _ _ _ HA.out (by omega) (by omega)).mono ?_
      rintro e w' ⟨rfl, rfl⟩
      go_wp2_with fail
      go_ret2
      exact ⟨Pl.ret2ib HV.out.symm HB.out.symm, rfl⟩
    · rcases Int.lt_or_le (Pl.cnt i 0) 0 with c2 | c2
      · omega
      · have HV : Hid (Pl.plV i n = 0) := by unfold Pl.plV; rw [Hnn.out]; exact if_neg (by omega)
        have HB : Hid (Pl.plB i n = false) := by unfold Pl.plB; rw [Hnn.out]; exact decide_eq_false (by omega)
        go_enter Tryd.func51, Tryd.ntmps51
        go_wp2_with fail
        refine (fromEnd_walk _ _ _ HA.out (by omega) (by omega)).mono ?_
        rintro e w' ⟨rfl, rfl⟩
        go_wp2_with fail
        go_ret2
        exact ⟨Pl.ret2ib HV.out.symm HB.out.symm, rfl⟩
  · have Hnn : Hid (Pl.nn n = n) := if_neg (by omega)
    have HX := Pl.hid (Pl.cnt_in HA.out (n := n) hge n2)
    rcases Int.lt_or_le (Pl.cnt i n) 0 with c1 | c1
    · have HV : Hid (Pl.plV i n = 0) := by unfold Pl.plV; rw [Hnn.out]; exact if_neg (by omega)
      have HB : Hid (Pl.plB i n = false) := by unfold Pl.plB; rw [Hnn.out]; exact decide_eq_false (by omega)
      go_enter Tryd.func51, Tryd.ntmps51
      go_wp2_with fail
      refine (fromEnd_walk _ _ _ HA.out (by omega) (by omega)).mono ?_
      rintro e w' ⟨rfl, rfl⟩
      go_wp2_with fail
      go_ret2
      exact ⟨Pl.ret2ib HV.out.symm HB.out.symm, rfl⟩
    · rcases Int.lt_or_le (Pl.cnt i n) n with c2 | c2
      · have HV : Hid (Pl.plV i n = Pl.cnt i n) := by unfold Pl.plV; rw [Hnn.out]; exact if_pos ⟨c1, c2⟩
        have HB : Hid (Pl.plB i n = true) := by unfold Pl.plB; rw [Hnn.out]; exact decide_eq_true ⟨c1, c2⟩
        go_enter Tryd.func51, Tryd.ntmps51
        go_wp2_with fail
        refine (fromEnd_walk _ _ _ HA.out (by omega) (by omega)).mono ?_
        rintro e w' ⟨rfl, rfl⟩
        go_wp2_with fail
        go_ret2
        exact ⟨Pl.ret2ib HV.out.symm HB.out.symm, rfl⟩
      · have HV : Hid (Pl.plV i n = 0) := by unfold Pl.plV; rw [Hnn.out]; exact if_neg (by omega)
        have HB : Hid (Pl.plB i n = false) := by unfold Pl.plB; rw [Hnn.out]; exact decide_eq_false (by omega)
        go_enter Tryd.func51, Tryd.ntmps51
        go_wp2_with fail
        refine (fromEnd_walk _ _ _ HA.out (by omega) (by omega)).mono ?_
        rintro e w' ⟨rfl, rfl⟩
        go_wp2_with fail
        go_ret2
        exact ⟨Pl.ret2ib HV.out.symm HB.out.symm, rfl⟩

end Go.Proofs.YtenacajpgpkdnaaDoor
