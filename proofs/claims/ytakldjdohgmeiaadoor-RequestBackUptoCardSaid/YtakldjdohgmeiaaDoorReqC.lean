/- Contract of request's double: the word between double quotes, and how many bytes it takes. Conditions: texts within the form's reach. -/
import Derived.Test.YtakldjdohgmeiaaDoorReqB
namespace Go.Proofs.YtakldjdohgmeiaaDoor
open Go.RowKit
set_option maxRecDepth 20000

namespace Pl
theorem dbl_q (f : Nat) (r : List UInt8) : dbl (f + 1) (34 :: r) = some ([], 1) := by simp [dbl]
theorem dbl_end (f : Nat) : dbl (f + 1) [92] = none := by simp [dbl]
theorem dbl_two (f : Nat) (r : List UInt8) (h : two r = true) : dbl (f + 1) (92 :: 120 :: r) = (dbl f (r.drop 2)).map fun p => (twoV r :: p.1, p.2 + 4) := by simp [dbl, h]
theorem dbl_esc (f : Nat) (d : UInt8) (r : List UInt8) (h : ¬ (d = 120 ∧ two r = true)) : dbl (f + 1) (92 :: d :: r) = (dbl f r).map fun p => (esc d :: p.1, p.2 + 2) := by
  simp only [dbl]
  rw [if_neg (by decide), if_pos (by trivial), if_neg h]
theorem dbl_c (f : Nat) (c : UInt8) (r : List UInt8) (h1 : c ≠ 34) (h2 : c ≠ 92) : dbl (f + 1) (c :: r) = (dbl f r).map fun p => (c :: p.1, p.2 + 1) := by
  simp only [dbl]
  rw [if_neg h1, if_neg h2]
theorem dbl_nil (f : Nat) : dbl f [] = none := by cases f <;> rfl
theorem two_short (s : ByteArray) (i : Nat) (h : ¬ i + 2 < s.size) : two ((L s).drop (i + 1)) = false := by
  by_cases h0 : i + 1 < s.size
  · rw [drop_get s (i + 1) h0, drop_end s (i + 1 + 1) (by omega)]
    rfl
  · rw [drop_end s (i + 1) (by omega)]
    rfl
theorem two_at (s : ByteArray) (i : Nat) (h : i + 2 < s.size) : two ((L s).drop (i + 1)) = (decide (hexV ((s[i + 1]'(by omega)).toNat : Int) < 16) && decide (hexV ((s[i + 2]'h).toNat : Int) < 16)) := by
  rw [drop_get s (i + 1) (by omega), drop_get s (i + 1 + 1) h]
  rfl
theorem twoV_at (s : ByteArray) (i : Nat) (h : i + 2 < s.size) : twoV ((L s).drop (i + 1)) = ofI (hexV ((s[i + 1]'(by omega)).toNat : Int) * 16 + hexV ((s[i + 2]'h).toNat : Int)) := by
  rw [drop_get s (i + 1) (by omega), drop_get s (i + 1 + 1) h]
  rfl
theorem esc_110 : esc 110 = 10 := rfl
theorem esc_114 : esc 114 = 13 := rfl
theorem esc_116 : esc 116 = 9 := rfl
theorem esc_c {c : UInt8} (h1 : c ≠ 110) (h2 : c ≠ 114) (h3 : c ≠ 116) : esc c = c := by unfold esc; rw [if_neg h1, if_neg h2, if_neg h3]
end Pl
theorem Mm.OwnB.drewN {w : World} {b : Nat} {v : Value} {l : List UInt8} (h : Mm.OwnB w b v l) (n : Nat) : Mm.OwnB (w.drewN n) b v l := h

theorem hex_byte (c : UInt8) (w : World) : Calls Tryd.prog 70 #[.int .u8 (c.toNat : Int)] w fun e w' => e = .returned (.int .u8 (Pl.hexV (c.toNat : Int))) ∧ w = w' :=
  hex_walk _ w (by omega) (by have := c.toNat_lt; omega)

set_option maxHeartbeats 4000000 in
theorem double_walk (s : ByteArray) (w : World) (hs : s.size ≤ 140737488351232) :
    Calls Tryd.prog 57 #[.string s] w fun e w' => e = .returned (.tuple #[.string (Pl.qW (Pl.dbO s)), .int .i64 (Pl.qN (Pl.dbO s))]) ∧ Below w.heap.size w w' := by
  go_enter Tryd.func57, Tryd.ntmps57
  go_wp2_with fail
  go_loopw [4, 5] (fun bv iv wr => ∃ (i f : Nat) (acc : List UInt8), iv = .int .i64 i ∧ 1 ≤ i ∧ (i ≤ s.size ∨ i = 1) ∧ s.size ≤ f + i ∧ acc.length + 1 ≤ i ∧ Hid (Mm.OwnB wr w.heap.size bv acc) ∧ Hid (Pl.dbO s = Pl.far (Pl.dbl f ((Pl.L s).drop i)) acc i) ∧ Hid (Below w.heap.size w wr))
    (fun _ i _ => s.size - (intOf i).toNat)
  case atStart => exact ⟨1, s.size, [], rfl, Nat.le_refl _, .inr rfl, by omega, Nat.le_refl _, Mm.ownB_nil _ _, (Pl.far_start _).symm, Below.refl _ _⟩
  case round =>
    obtain ⟨i, f, acc, rfl, hi1, hi2, hf, hacc, HO, HQ, HB⟩ := hrel
    by_cases hlt : i < s.size
    · obtain ⟨f, rfl⟩ : ∃ g, f = g + 1 := ⟨f - 1, by omega⟩
      have hq := HQ.out
      rw [Pl.drop_get s i hlt] at hq
      by_cases h34 : (s[i]'hlt).toNat = 34
      · have e34 : (((s[i]'hlt).toNat : Int) == 34) = true := beq_iff_eq.2 (by omega)
        rw [Pl.u8_is (d := 34) h34 rfl, Pl.dbl_q] at hq
        have HR := Pl.hid (Pl.far_done hq hi1)
        have hcv := Mm.run_str _ _ _ _ HO.out
        clear hq h34 hi2 hf
        go_wp2_with fail
        go_ret2
        exact ⟨Pl.ret2si HR.out.1.symm HR.out.2.symm, HB.out⟩
      · have e34 : (((s[i]'hlt).toNat : Int) == 34) = false := beq_eq_false_iff_ne.2 (by omega)
        by_cases h92 : (s[i]'hlt).toNat = 92
        · have e92 : (((s[i]'hlt).toNat : Int) == 92) = true := beq_iff_eq.2 (by omega)
          rw [Pl.u8_is (d := 92) h92 rfl] at hq
          by_cases h1 : i + 1 < s.size
          · rw [Pl.drop_get s (i + 1) h1] at hq
            by_cases k110 : (s[i + 1]'h1).toNat = 110
            · have x110 : (((s[i + 1]'h1).toNat : Int) == 110) = true := beq_iff_eq.2 (by omega)
              rw [Pl.u8_is (c := s[i + 1]'h1) (d := 110) k110 rfl, Pl.dbl_esc _ _ _ (fun h => absurd h.1 (by decide)), Pl.esc_110] at hq
              have HR := Pl.hid (Pl.far_step hq hi1)
              clear hq h34 h92 k110
              go_wp2_with (at_builtin; refine Mm.wp_appI _ rfl _ _ (by rfl) w.heap.size _ _ (10) (by rfl) (by rfl) HO.out (by omega) (by omega) (by omega) HB.out.size ?_; intro v1 w1 hown1 hb1)
              have HO1 := Pl.hid hown1
              have HB1 := Pl.hid (HB.out.trans hb1)
              clear hown1 hb1
              go_roundw
              case rel => exact ⟨i + 2, f, acc ++ [10], by go_num, by omega, by omega, by omega, by simp; omega, HO1, HR, HB1⟩
              case measure => simp [intOf]; omega
            · have x110 : (((s[i + 1]'h1).toNat : Int) == 110) = false := beq_eq_false_iff_ne.2 (by omega)
              by_cases k114 : (s[i + 1]'h1).toNat = 114
              · have x114 : (((s[i + 1]'h1).toNat : Int) == 114) = true := beq_iff_eq.2 (by omega)
                rw [Pl.u8_is (c := s[i + 1]'h1) (d := 114) k114 rfl, Pl.dbl_esc _ _ _ (fun h => absurd h.1 (by decide)), Pl.esc_114] at hq
                have HR := Pl.hid (Pl.far_step hq hi1)
                clear hq h34 h92 k114
                go_wp2_with (at_builtin; refine Mm.wp_appI _ rfl _ _ (by rfl) w.heap.size _ _ (13) (by rfl) (by rfl) HO.out (by omega) (by omega) (by omega) HB.out.size ?_; intro v1 w1 hown1 hb1)
                have HO1 := Pl.hid hown1
                have HB1 := Pl.hid (HB.out.trans hb1)
                clear hown1 hb1
                go_roundw
                case rel => exact ⟨i + 2, f, acc ++ [13], by go_num, by omega, by omega, by omega, by simp; omega, HO1, HR, HB1⟩
                case measure => simp [intOf]; omega
              · have x114 : (((s[i + 1]'h1).toNat : Int) == 114) = false := beq_eq_false_iff_ne.2 (by omega)
                by_cases k116 : (s[i + 1]'h1).toNat = 116
                · have x116 : (((s[i + 1]'h1).toNat : Int) == 116) = true := beq_iff_eq.2 (by omega)
                  rw [Pl.u8_is (c := s[i + 1]'h1) (d := 116) k116 rfl, Pl.dbl_esc _ _ _ (fun h => absurd h.1 (by decide)), Pl.esc_116] at hq
                  have HR := Pl.hid (Pl.far_step hq hi1)
                  clear hq h34 h92 k116
                  go_wp2_with (at_builtin; refine Mm.wp_appI _ rfl _ _ (by rfl) w.heap.size _ _ (9) (by rfl) (by rfl) HO.out (by omega) (by omega) (by omega) HB.out.size ?_; intro v1 w1 hown1 hb1)
                  have HO1 := Pl.hid hown1
                  have HB1 := Pl.hid (HB.out.trans hb1)
                  clear hown1 hb1
                  go_roundw
                  case rel => exact ⟨i + 2, f, acc ++ [9], by go_num, by omega, by omega, by omega, by simp; omega, HO1, HR, HB1⟩
                  case measure => simp [intOf]; omega
                · have x116 : (((s[i + 1]'h1).toNat : Int) == 116) = false := beq_eq_false_iff_ne.2 (by omega)
                  by_cases k120 : (s[i + 1]'h1).toNat = 120
                  · have x120 : (((s[i + 1]'h1).toNat : Int) == 120) = true := beq_iff_eq.2 (by omega)
                    by_cases h3 : i + 1 + 2 < s.size
                    · have ht := Pl.two_at s (i + 1) h3
                      by_cases y1 : Pl.hexV ((s[i + 1 + 1]'(by omega)).toNat : Int) < 16
                      · by_cases y2 : Pl.hexV ((s[i + 1 + 2]'h3).toNat : Int) < 16
                        · have ht2 : Pl.two ((Pl.L s).drop (i + 1 + 1)) = true := by rw [ht]; exact Bool.and_eq_true_iff.2 ⟨decide_eq_true y1, decide_eq_true y2⟩
                          rw [Pl.u8_is (c := s[i + 1]'h1) (d := 120) k120 rfl, Pl.dbl_two _ _ ht2, Pl.twoV_at s (i + 1) h3, List.drop_drop] at hq
                          have HR := Pl.hid (Pl.far_step hq hi1)
                          obtain ⟨z1, _⟩ := Pl.hexV_bd ((s[i + 1 + 1]'(by omega)).toNat : Int)
                          obtain ⟨z2, _⟩ := Pl.hexV_bd ((s[i + 1 + 2]'h3).toNat : Int)
                          clear hq h34 h92 k110 k114 k116 k120 ht ht2
                          go_wp2_with (go_at_call 70; refine (hex_byte _ _).mono ?_; rintro e w' ⟨rfl, rfl⟩)
                          go_quiet ((go_at_call 70; exact Calls.quiet_of_same ((hex_byte _ _).mono fun e w' ⟨h, h'⟩ => ⟨h, h'.symm⟩)))
                          have HOr := Pl.hid (Pl.hex_or _ _ z1 y1 z2 y2)
                          rw [HOr.out]
                          have HO' : Hid (Mm.OwnB (wr.drewN nq) w.heap.size u4 acc) := HO.out.drewN _
                          have HBq := Pl.hid (HB.out.trans (Mm.below_drewN (B := w.heap.size) wr nq))
                          go_wp2_with (at_builtin; refine Mm.wp_appI _ rfl _ _ (by rfl) w.heap.size _ _ (Pl.hexV ((s[i + 1 + 1]'(by omega)).toNat : Int) * 16 + Pl.hexV ((s[i + 1 + 2]'h3).toNat : Int)) (by rfl) (by rfl) HO'.out (by omega) (by omega) (by omega) HBq.out.size ?_; intro v1 w1 hown1 hb1)
                          have HO1 := Pl.hid hown1
                          have HB1 := Pl.hid (HBq.out.trans hb1)
                          clear hown1 hb1
                          go_roundw
                          case rel => exact ⟨i + 4, f, acc ++ [Pl.ofI (Pl.hexV ((s[i + 1 + 1]'(by omega)).toNat : Int) * 16 + Pl.hexV ((s[i + 1 + 2]'h3).toNat : Int))], by go_num, by omega, by omega, by omega, by simp; omega, HO1, HR, HB1⟩
                          case measure => simp [intOf]; omega
                        · have ht2 : Pl.two ((Pl.L s).drop (i + 1 + 1)) = false := by rw [ht, decide_eq_false y2, Bool.and_false]
                          clear ht
                          rw [Pl.dbl_esc _ _ _ (fun h => absurd h.2 (by rw [ht2]; decide)), Pl.esc_c (Pl.u8_no (d := 110) k110 rfl) (Pl.u8_no (d := 114) k114 rfl) (Pl.u8_no (d := 116) k116 rfl)] at hq
                          have HR := Pl.hid (Pl.far_step hq hi1)
                          clear hq h34 h92 k110 k114 k116 k120
                          go_wp2_with (first | (go_at_call 70; refine (hex_byte _ _).mono ?_; rintro e w' ⟨rfl, rfl⟩) | (at_builtin; refine Mm.wp_app1 _ rfl _ _ (by rfl) w.heap.size _ _ (s[i + 1]'h1) (by rfl) (by rfl) HO.out (by omega) HB.out.size ?_; intro v1 w1 hown1 hb1))
                          have HO1 := Pl.hid hown1
                          have HB1 := Pl.hid (HB.out.trans hb1)
                          clear hown1 hb1
                          go_roundw
                          case rel => exact ⟨i + 2, f, acc ++ [s[i + 1]'h1], by go_num, by omega, by omega, by omega, by simp; omega, HO1, HR, HB1⟩
                          case measure => simp [intOf]; omega
                      · have ht2 : Pl.two ((Pl.L s).drop (i + 1 + 1)) = false := by rw [ht, decide_eq_false y1]; rfl
                        clear ht
                        rw [Pl.dbl_esc _ _ _ (fun h => absurd h.2 (by rw [ht2]; decide)), Pl.esc_c (Pl.u8_no (d := 110) k110 rfl) (Pl.u8_no (d := 114) k114 rfl) (Pl.u8_no (d := 116) k116 rfl)] at hq
                        have HR := Pl.hid (Pl.far_step hq hi1)
                        clear hq h34 h92 k110 k114 k116 k120
                        go_wp2_with (first | (go_at_call 70; refine (hex_byte _ _).mono ?_; rintro e w' ⟨rfl, rfl⟩) | (at_builtin; refine Mm.wp_app1 _ rfl _ _ (by rfl) w.heap.size _ _ (s[i + 1]'h1) (by rfl) (by rfl) HO.out (by omega) HB.out.size ?_; intro v1 w1 hown1 hb1))
                        have HO1 := Pl.hid hown1
                        have HB1 := Pl.hid (HB.out.trans hb1)
                        clear hown1 hb1
                        go_roundw
                        case rel => exact ⟨i + 2, f, acc ++ [s[i + 1]'h1], by go_num, by omega, by omega, by omega, by simp; omega, HO1, HR, HB1⟩
                        case measure => simp [intOf]; omega
                    · have ht2 := Pl.two_short s (i + 1) h3
                      rw [Pl.dbl_esc _ _ _ (fun h => absurd h.2 (by rw [ht2]; decide)), Pl.esc_c (Pl.u8_no (d := 110) k110 rfl) (Pl.u8_no (d := 114) k114 rfl) (Pl.u8_no (d := 116) k116 rfl)] at hq
                      have HR := Pl.hid (Pl.far_step hq hi1)
                      clear hq h34 h92 k110 k114 k116 k120
                      go_wp2_with (first | (go_at_call 70; refine (hex_byte _ _).mono ?_; rintro e w' ⟨rfl, rfl⟩) | (at_builtin; refine Mm.wp_app1 _ rfl _ _ (by rfl) w.heap.size _ _ (s[i + 1]'h1) (by rfl) (by rfl) HO.out (by omega) HB.out.size ?_; intro v1 w1 hown1 hb1))
                      have HO1 := Pl.hid hown1
                      have HB1 := Pl.hid (HB.out.trans hb1)
                      clear hown1 hb1
                      go_roundw
                      case rel => exact ⟨i + 2, f, acc ++ [s[i + 1]'h1], by go_num, by omega, by omega, by omega, by simp; omega, HO1, HR, HB1⟩
                      case measure => simp [intOf]; omega
                  · have x120 : (((s[i + 1]'h1).toNat : Int) == 120) = false := beq_eq_false_iff_ne.2 (by omega)
                    rw [Pl.dbl_esc _ _ _ (fun h => k120 (by rw [h.1]; rfl)), Pl.esc_c (Pl.u8_no (d := 110) k110 rfl) (Pl.u8_no (d := 114) k114 rfl) (Pl.u8_no (d := 116) k116 rfl)] at hq
                    have HR := Pl.hid (Pl.far_step hq hi1)
                    clear hq h34 h92 k110 k114 k116 k120
                    go_wp2_with (at_builtin; refine Mm.wp_app1 _ rfl _ _ (by rfl) w.heap.size _ _ (s[i + 1]'h1) (by rfl) (by rfl) HO.out (by omega) HB.out.size ?_; intro v1 w1 hown1 hb1)
                    have HO1 := Pl.hid hown1
                    have HB1 := Pl.hid (HB.out.trans hb1)
                    clear hown1 hb1
                    go_roundw
                    case rel => exact ⟨i + 2, f, acc ++ [s[i + 1]'h1], by go_num, by omega, by omega, by omega, by simp; omega, HO1, HR, HB1⟩
                    case measure => simp [intOf]; omega
          · rw [Pl.drop_end s (i + 1) (by omega), Pl.dbl_end] at hq
            have HR := Pl.hid (Pl.far_none hq)
            have he : (((i : Int) + 1) == (s.size : Int)) = true := beq_iff_eq.2 (by omega)
            clear hq h34 h92
            go_wp2_with fail
            go_ret2
            exact ⟨Pl.ret2si HR.out.1.symm HR.out.2.symm, HB.out⟩
        · have e92 : (((s[i]'hlt).toNat : Int) == 92) = false := beq_eq_false_iff_ne.2 (by omega)
          rw [Pl.dbl_c f (s[i]'hlt) ((Pl.L s).drop (i + 1)) (Pl.u8_no (d := 34) h34 rfl) (Pl.u8_no (d := 92) h92 rfl)] at hq
          have HR := Pl.hid (Pl.far_step hq hi1)
          clear hq h34 h92
          go_wp2_with (at_builtin; refine Mm.wp_app1 _ rfl _ _ (by rfl) w.heap.size _ _ (s[i]'hlt) (by rfl) (by rfl) HO.out (by omega) HB.out.size ?_; intro v1 w1 hown1 hb1)
          have HO1 := Pl.hid hown1
          have HB1 := Pl.hid (HB.out.trans hb1)
          clear hown1 hb1
          go_roundw
          case rel => exact ⟨i + 1, f, acc ++ [s[i]'hlt], by go_num, by omega, by omega, by omega, by simp; omega, HO1, HR, HB1⟩
          case measure => simp [intOf]; omega
    · have hq := HQ.out
      rw [Pl.drop_end s i (by omega), Pl.dbl_nil] at hq
      have HR := Pl.hid (Pl.far_none hq)
      clear hq
      go_wp2_with fail
      go_ret2
      exact ⟨Pl.ret2si HR.out.1.symm HR.out.2.symm, HB.out⟩
end Go.Proofs.YtakldjdohgmeiaaDoor
