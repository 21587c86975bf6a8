/- Contract of the reference's SetBit where it sets a bit. Conditions: texts within the form's reach; numbers of 64 bits. -/
import Derived.Test.YtenacajpgpkdnaaPatF
namespace Go.Proofs.Ytenacajpgpkdnaa
open Go.RowKit

set_option maxHeartbeats 1600000 in
theorem refsetbit_00 (s : ByteArray) (i : Int) (w : World) (hs : s.size ≤ 140737488351232) (h0 : 0 ≤ i) (d1 : (s.size : Int) ≤ 1048576) (d2 : i ≤ 8388607) (hw : Pl.bitL (Pl.L s) i.toNat = 0) :
    Calls Try.prog 28 #[.string s, .int .i64 i, .int .i64 0] w fun e w' => e = .returned (.tuple #[.string (Pl.B (Pl.sbL (Pl.L s) i.toNat 0)), .int .i64 0, .int .i64 0]) ∧ Below w.heap.size w w' := by
  obtain ⟨m, hm⟩ : ∃ m, m = max s.size (i / 8 + 1).toNat := ⟨_, rfl⟩
  have hm1 : i / 8 + 1 ≤ m := by omega
  have hm2 : m ≤ 1048576 := by omega
  have HM : Hid ((Pl.sbL (Pl.L s) i.toNat 0).length = m) := by show _ = _; rw [Pl.sbL_length, Pl.L_length, hm]; omega
  have HW := Pl.hid hw
  have HQ := Pl.hid (Pl.bit_atI (Pl.L s) i h0)
  by_cases e : i / 8 + 1 < (s.size : Int)
  · have q1 : m ≤ s.size := by omega
    have q2 : s.size ≤ m := by omega
    clear hm hw
    go_enter Try.func28, Try.ntmps28
    go_wp2_with (first | (go_at_call 35; refine (refbit_int _ _ _ (by omega) (by omega)).mono ?_; rw [HW.out]; rintro e w' ⟨rfl, rfl⟩) | (at_make; refine Mm.wp_make0 _ rfl _ _ rfl _ (by rfl) (by rfl) (by omega) (by omega) ?_; intro v0 w1 hown0 hb0; have HO := Pl.hid hown0; have HBel := Pl.hid hb0; clear hown0 hb0))
    go_loopw [12, 53] (fun o j wr => ∃ k : Nat, k ≤ m ∧ j = .int .i64 k ∧ Mm.OwnB wr w.heap.size o ((Pl.sbL (Pl.L s) i.toNat 0).take k) ∧ Below w.heap.size w wr) (fun _ j _ => m - (intOf j).toNat)
    case atStart => exact ⟨0, Nat.zero_le _, rfl, HO.out, HBel.out⟩
    case round =>
      obtain ⟨k, hk, rfl, hown, hbel⟩ := hrel
      have HO2 := Pl.hid hown
      have HBel2 := Pl.hid hbel
      by_cases hlt : k < m
      · clear hown hbel
        have HT := Pl.hid (Pl.take_snoc (Pl.sbL (Pl.L s) i.toNat 0) k (by rw [HM.out]; exact hlt))
        have HG := Pl.hid (Pl.sbL_getD (Pl.L s) i.toNat 0 k (by rw [← Pl.sbL_length (b := 0), HM.out]; exact hlt))
        have HL := Pl.hid (show ((Pl.sbL (Pl.L s) i.toNat 0).take k).length < 140737488355328 by rw [List.length_take]; omega)
        obtain ⟨x0, x1⟩ := Pl.at_bd (Pl.L s) k
        by_cases c1 : (k : Int) = i / 8
        · have hkk : k = i.toNat / 8 := by omega
          have hb1 : ((k : Int) == i / 8) = true := beq_iff_eq.2 c1
          have HN := Pl.hid (show Pl.at_ (Pl.L s) k / 2 ^ (7 - (i % 8).toNat) % 2 = 0 by have := HQ.out; rw [HW.out, show (i / 8).toNat = k by omega] at this; exact this.symm)
          have hkn := Pl.hid (show i.toNat % 8 = (i % 8).toNat by omega)
          have HE := Pl.hid (show (Pl.sbL (Pl.L s) i.toNat 0).take (k + 1) = (Pl.sbL (Pl.L s) i.toNat 0).take k ++ [Pl.ofI (Pl.at_ (Pl.L s) k)] by
            rw [HT.out, HG.out, if_pos hkk, hkn.out, ← HN.out, Pl.nb_same])
          clear c1 hkk
          go_wp2_with (first | (go_at_call 33; refine (at_walk _ _ _ (by omega) (by omega)).mono ?_; rw [Int.toNat_natCast]; rintro e w' ⟨rfl, rfl⟩) | (at_builtin; refine Mm.wp_appI _ rfl _ _ (by rfl) w.heap.size _ _ (Pl.at_ (Pl.L s) k) (by rfl) (by rfl) HO2.out x0 x1 HL.out HBel2.out.size ?_; intro v3 w3 hown3 hbel3; have HO3 := Pl.hid hown3; have HBel3 := Pl.hid (HBel2.out.trans hbel3); clear hown3 hbel3))
          go_roundw
          case rel => exact ⟨k + 1, by omega, by go_num, by rw [HE.out]; exact HO3.out, HBel3.out⟩
          case measure => simp [intOf]; omega
        · have hb1 : ((k : Int) == i / 8) = false := beq_eq_false_iff_ne.2 c1
          have HE := Pl.hid (show (Pl.sbL (Pl.L s) i.toNat 0).take (k + 1) = (Pl.sbL (Pl.L s) i.toNat 0).take k ++ [Pl.ofI (Pl.at_ (Pl.L s) k)] by
            rw [HT.out, HG.out, if_neg (by omega), Pl.ofI_at])
          clear c1
          go_wp2_with (first | (go_at_call 33; refine (at_walk _ _ _ (by omega) (by omega)).mono ?_; rw [Int.toNat_natCast]; rintro e w' ⟨rfl, rfl⟩) | (at_builtin; refine Mm.wp_appI _ rfl _ _ (by rfl) w.heap.size _ _ (Pl.at_ (Pl.L s) k) (by rfl) (by rfl) HO2.out x0 x1 HL.out HBel2.out.size ?_; intro v3 w3 hown3 hbel3; have HO3 := Pl.hid hown3; have HBel3 := Pl.hid (HBel2.out.trans hbel3); clear hown3 hbel3))
          go_roundw
          case rel => exact ⟨k + 1, by omega, by go_num, by rw [HE.out]; exact HO3.out, HBel3.out⟩
          case measure => simp [intOf]; omega
      · have HK := Pl.hid (show (Pl.sbL (Pl.L s) i.toNat 0).take k = Pl.sbL (Pl.L s) i.toNat 0 from List.take_of_length_le (by rw [HM.out]; omega))
        have hcv := Mm.run_str _ _ _ _ hown
        clear hown hbel
        go_wp2
        go_ret3
        exact ⟨Pl.ret3sii (by rw [HK.out]) rfl rfl, HBel2.out⟩
  · have q1 : (m : Int) ≤ i / 8 + 1 := by omega
    clear hm hw
    go_enter Try.func28, Try.ntmps28
    go_wp2_with (first | (go_at_call 35; refine (refbit_int _ _ _ (by omega) (by omega)).mono ?_; rw [HW.out]; rintro e w' ⟨rfl, rfl⟩) | (at_make; refine Mm.wp_make0 _ rfl _ _ rfl _ (by rfl) (by rfl) (by omega) (by omega) ?_; intro v0 w1 hown0 hb0; have HO := Pl.hid hown0; have HBel := Pl.hid hb0; clear hown0 hb0))
    go_loopw [12, 53] (fun o j wr => ∃ k : Nat, k ≤ m ∧ j = .int .i64 k ∧ Mm.OwnB wr w.heap.size o ((Pl.sbL (Pl.L s) i.toNat 0).take k) ∧ Below w.heap.size w wr) (fun _ j _ => m - (intOf j).toNat)
    case atStart => exact ⟨0, Nat.zero_le _, rfl, HO.out, HBel.out⟩
    case round =>
      obtain ⟨k, hk, rfl, hown, hbel⟩ := hrel
      have HO2 := Pl.hid hown
      have HBel2 := Pl.hid hbel
      by_cases hlt : k < m
      · clear hown hbel
        have HT := Pl.hid (Pl.take_snoc (Pl.sbL (Pl.L s) i.toNat 0) k (by rw [HM.out]; exact hlt))
        have HG := Pl.hid (Pl.sbL_getD (Pl.L s) i.toNat 0 k (by rw [← Pl.sbL_length (b := 0), HM.out]; exact hlt))
        have HL := Pl.hid (show ((Pl.sbL (Pl.L s) i.toNat 0).take k).length < 140737488355328 by rw [List.length_take]; omega)
        obtain ⟨x0, x1⟩ := Pl.at_bd (Pl.L s) k
        by_cases c1 : (k : Int) = i / 8
        · have hkk : k = i.toNat / 8 := by omega
          have hb1 : ((k : Int) == i / 8) = true := beq_iff_eq.2 c1
          have HN := Pl.hid (show Pl.at_ (Pl.L s) k / 2 ^ (7 - (i % 8).toNat) % 2 = 0 by have := HQ.out; rw [HW.out, show (i / 8).toNat = k by omega] at this; exact this.symm)
          have hkn := Pl.hid (show i.toNat % 8 = (i % 8).toNat by omega)
          have HE := Pl.hid (show (Pl.sbL (Pl.L s) i.toNat 0).take (k + 1) = (Pl.sbL (Pl.L s) i.toNat 0).take k ++ [Pl.ofI (Pl.at_ (Pl.L s) k)] by
            rw [HT.out, HG.out, if_pos hkk, hkn.out, ← HN.out, Pl.nb_same])
          clear c1 hkk
          go_wp2_with (first | (go_at_call 33; refine (at_walk _ _ _ (by omega) (by omega)).mono ?_; rw [Int.toNat_natCast]; rintro e w' ⟨rfl, rfl⟩) | (at_builtin; refine Mm.wp_appI _ rfl _ _ (by rfl) w.heap.size _ _ (Pl.at_ (Pl.L s) k) (by rfl) (by rfl) HO2.out x0 x1 HL.out HBel2.out.size ?_; intro v3 w3 hown3 hbel3; have HO3 := Pl.hid hown3; have HBel3 := Pl.hid (HBel2.out.trans hbel3); clear hown3 hbel3))
          go_roundw
          case rel => exact ⟨k + 1, by omega, by go_num, by rw [HE.out]; exact HO3.out, HBel3.out⟩
          case measure => simp [intOf]; omega
        · have hb1 : ((k : Int) == i / 8) = false := beq_eq_false_iff_ne.2 c1
          have HE := Pl.hid (show (Pl.sbL (Pl.L s) i.toNat 0).take (k + 1) = (Pl.sbL (Pl.L s) i.toNat 0).take k ++ [Pl.ofI (Pl.at_ (Pl.L s) k)] by
            rw [HT.out, HG.out, if_neg (by omega), Pl.ofI_at])
          clear c1
          go_wp2_with (first | (go_at_call 33; refine (at_walk _ _ _ (by omega) (by omega)).mono ?_; rw [Int.toNat_natCast]; rintro e w' ⟨rfl, rfl⟩) | (at_builtin; refine Mm.wp_appI _ rfl _ _ (by rfl) w.heap.size _ _ (Pl.at_ (Pl.L s) k) (by rfl) (by rfl) HO2.out x0 x1 HL.out HBel2.out.size ?_; intro v3 w3 hown3 hbel3; have HO3 := Pl.hid hown3; have HBel3 := Pl.hid (HBel2.out.trans hbel3); clear hown3 hbel3))
          go_roundw
          case rel => exact ⟨k + 1, by omega, by go_num, by rw [HE.out]; exact HO3.out, HBel3.out⟩
          case measure => simp [intOf]; omega
      · have HK := Pl.hid (show (Pl.sbL (Pl.L s) i.toNat 0).take k = Pl.sbL (Pl.L s) i.toNat 0 from List.take_of_length_le (by rw [HM.out]; omega))
        have hcv := Mm.run_str _ _ _ _ hown
        clear hown hbel
        go_wp2
        go_ret3
        exact ⟨Pl.ret3sii (by rw [HK.out]) rfl rfl, HBel2.out⟩

set_option maxHeartbeats 1600000 in
theorem refsetbit_11 (s : ByteArray) (i : Int) (w : World) (hs : s.size ≤ 140737488351232) (h0 : 0 ≤ i) (d1 : (s.size : Int) ≤ 1048576) (d2 : i ≤ 8388607) (hw : Pl.bitL (Pl.L s) i.toNat = 1) :
    Calls Try.prog 28 #[.string s, .int .i64 i, .int .i64 1] w fun e w' => e = .returned (.tuple #[.string (Pl.B (Pl.sbL (Pl.L s) i.toNat 1)), .int .i64 1, .int .i64 0]) ∧ Below w.heap.size w w' := by
  obtain ⟨m, hm⟩ : ∃ m, m = max s.size (i / 8 + 1).toNat := ⟨_, rfl⟩
  have hm1 : i / 8 + 1 ≤ m := by omega
  have hm2 : m ≤ 1048576 := by omega
  have HM : Hid ((Pl.sbL (Pl.L s) i.toNat 1).length = m) := by show _ = _; rw [Pl.sbL_length, Pl.L_length, hm]; omega
  have HW := Pl.hid hw
  have HQ := Pl.hid (Pl.bit_atI (Pl.L s) i h0)
  by_cases e : i / 8 + 1 < (s.size : Int)
  · have q1 : m ≤ s.size := by omega
    have q2 : s.size ≤ m := by omega
    clear hm hw
    go_enter Try.func28, Try.ntmps28
    go_wp2_with (first | (go_at_call 35; refine (refbit_int _ _ _ (by omega) (by omega)).mono ?_; rw [HW.out]; rintro e w' ⟨rfl, rfl⟩) | (at_make; refine Mm.wp_make0 _ rfl _ _ rfl _ (by rfl) (by rfl) (by omega) (by omega) ?_; intro v0 w1 hown0 hb0; have HO := Pl.hid hown0; have HBel := Pl.hid hb0; clear hown0 hb0))
    go_loopw [12, 53] (fun o j wr => ∃ k : Nat, k ≤ m ∧ j = .int .i64 k ∧ Mm.OwnB wr w.heap.size o ((Pl.sbL (Pl.L s) i.toNat 1).take k) ∧ Below w.heap.size w wr) (fun _ j _ => m - (intOf j).toNat)
    case atStart => exact ⟨0, Nat.zero_le _, rfl, HO.out, HBel.out⟩
    case round =>
      obtain ⟨k, hk, rfl, hown, hbel⟩ := hrel
      have HO2 := Pl.hid hown
      have HBel2 := Pl.hid hbel
      by_cases hlt : k < m
      · clear hown hbel
        have HT := Pl.hid (Pl.take_snoc (Pl.sbL (Pl.L s) i.toNat 1) k (by rw [HM.out]; exact hlt))
        have HG := Pl.hid (Pl.sbL_getD (Pl.L s) i.toNat 1 k (by rw [← Pl.sbL_length (b := 1), HM.out]; exact hlt))
        have HL := Pl.hid (show ((Pl.sbL (Pl.L s) i.toNat 1).take k).length < 140737488355328 by rw [List.length_take]; omega)
        obtain ⟨x0, x1⟩ := Pl.at_bd (Pl.L s) k
        by_cases c1 : (k : Int) = i / 8
        · have hkk : k = i.toNat / 8 := by omega
          have hb1 : ((k : Int) == i / 8) = true := beq_iff_eq.2 c1
          have HN := Pl.hid (show Pl.at_ (Pl.L s) k / 2 ^ (7 - (i % 8).toNat) % 2 = 1 by have := HQ.out; rw [HW.out, show (i / 8).toNat = k by omega] at this; exact this.symm)
          have hkn := Pl.hid (show i.toNat % 8 = (i % 8).toNat by omega)
          have HE := Pl.hid (show (Pl.sbL (Pl.L s) i.toNat 1).take (k + 1) = (Pl.sbL (Pl.L s) i.toNat 1).take k ++ [Pl.ofI (Pl.at_ (Pl.L s) k)] by
            rw [HT.out, HG.out, if_pos hkk, hkn.out, ← HN.out, Pl.nb_same])
          clear c1 hkk
          go_wp2_with (first | (go_at_call 33; refine (at_walk _ _ _ (by omega) (by omega)).mono ?_; rw [Int.toNat_natCast]; rintro e w' ⟨rfl, rfl⟩) | (at_builtin; refine Mm.wp_appI _ rfl _ _ (by rfl) w.heap.size _ _ (Pl.at_ (Pl.L s) k) (by rfl) (by rfl) HO2.out x0 x1 HL.out HBel2.out.size ?_; intro v3 w3 hown3 hbel3; have HO3 := Pl.hid hown3; have HBel3 := Pl.hid (HBel2.out.trans hbel3); clear hown3 hbel3))
          go_roundw
          case rel => exact ⟨k + 1, by omega, by go_num, by rw [HE.out]; exact HO3.out, HBel3.out⟩
          case measure => simp [intOf]; omega
        · have hb1 : ((k : Int) == i / 8) = false := beq_eq_false_iff_ne.2 c1
          have HE := Pl.hid (show (Pl.sbL (Pl.L s) i.toNat 1).take (k + 1) = (Pl.sbL (Pl.L s) i.toNat 1).take k ++ [Pl.ofI (Pl.at_ (Pl.L s) k)] by
            rw [HT.out, HG.out, if_neg (by omega), Pl.ofI_at])
          clear c1
          go_wp2_with (first | (go_at_call 33; refine (at_walk _ _ _ (by omega) (by omega)).mono ?_; rw [Int.toNat_natCast]; rintro e w' ⟨rfl, rfl⟩) | (at_builtin; refine Mm.wp_appI _ rfl _ _ (by rfl) w.heap.size _ _ (Pl.at_ (Pl.L s) k) (by rfl) (by rfl) HO2.out x0 x1 HL.out HBel2.out.size ?_; intro v3 w3 hown3 hbel3; have HO3 := Pl.hid hown3; have HBel3 := Pl.hid (HBel2.out.trans hbel3); clear hown3 hbel3))
          go_roundw
          case rel => exact ⟨k + 1, by omega, by go_num, by rw [HE.out]; exact HO3.out, HBel3.out⟩
          case measure => simp [intOf]; omega
      · have HK := Pl.hid (show (Pl.sbL (Pl.L s) i.toNat 1).take k = Pl.sbL (Pl.L s) i.toNat 1 from List.take_of_length_le (by rw [HM.out]; omega))
        have hcv := Mm.run_str _ _ _ _ hown
        clear hown hbel
        go_wp2
        go_ret3
        exact ⟨Pl.ret3sii (by rw [HK.out]) rfl rfl, HBel2.out⟩
  · have q1 : (m : Int) ≤ i / 8 + 1 := by omega
    clear hm hw
    go_enter Try.func28, Try.ntmps28
    go_wp2_with (first | (go_at_call 35; refine (refbit_int _ _ _ (by omega) (by omega)).mono ?_; rw [HW.out]; rintro e w' ⟨rfl, rfl⟩) | (at_make; refine Mm.wp_make0 _ rfl _ _ rfl _ (by rfl) (by rfl) (by omega) (by omega) ?_; intro v0 w1 hown0 hb0; have HO := Pl.hid hown0; have HBel := Pl.hid hb0; clear hown0 hb0))
    go_loopw [12, 53] (fun o j wr => ∃ k : Nat, k ≤ m ∧ j = .int .i64 k ∧ Mm.OwnB wr w.heap.size o ((Pl.sbL (Pl.L s) i.toNat 1).take k) ∧ Below w.heap.size w wr) (fun _ j _ => m - (intOf j).toNat)
    case atStart => exact ⟨0, Nat.zero_le _, rfl, HO.out, HBel.out⟩
    case round =>
      obtain ⟨k, hk, rfl, hown, hbel⟩ := hrel
      have HO2 := Pl.hid hown
      have HBel2 := Pl.hid hbel
      by_cases hlt : k < m
      · clear hown hbel
        have HT := Pl.hid (Pl.take_snoc (Pl.sbL (Pl.L s) i.toNat 1) k (by rw [HM.out]; exact hlt))
        have HG := Pl.hid (Pl.sbL_getD (Pl.L s) i.toNat 1 k (by rw [← Pl.sbL_length (b := 1), HM.out]; exact hlt))
        have HL := Pl.hid (show ((Pl.sbL (Pl.L s) i.toNat 1).take k).length < 140737488355328 by rw [List.length_take]; omega)
        obtain ⟨x0, x1⟩ := Pl.at_bd (Pl.L s) k
        by_cases c1 : (k : Int) = i / 8
        · have hkk : k = i.toNat / 8 := by omega
          have hb1 : ((k : Int) == i / 8) = true := beq_iff_eq.2 c1
          have HN := Pl.hid (show Pl.at_ (Pl.L s) k / 2 ^ (7 - (i % 8).toNat) % 2 = 1 by have := HQ.out; rw [HW.out, show (i / 8).toNat = k by omega] at this; exact this.symm)
          have hkn := Pl.hid (show i.toNat % 8 = (i % 8).toNat by omega)
          have HE := Pl.hid (show (Pl.sbL (Pl.L s) i.toNat 1).take (k + 1) = (Pl.sbL (Pl.L s) i.toNat 1).take k ++ [Pl.ofI (Pl.at_ (Pl.L s) k)] by
            rw [HT.out, HG.out, if_pos hkk, hkn.out, ← HN.out, Pl.nb_same])
          clear c1 hkk
          go_wp2_with (first | (go_at_call 33; refine (at_walk _ _ _ (by omega) (by omega)).mono ?_; rw [Int.toNat_natCast]; rintro e w' ⟨rfl, rfl⟩) | (at_builtin; refine Mm.wp_appI _ rfl _ _ (by rfl) w.heap.size _ _ (Pl.at_ (Pl.L s) k) (by rfl) (by rfl) HO2.out x0 x1 HL.out HBel2.out.size ?_; intro v3 w3 hown3 hbel3; have HO3 := Pl.hid hown3; have HBel3 := Pl.hid (HBel2.out.trans hbel3); clear hown3 hbel3))
          go_roundw
          case rel => exact ⟨k + 1, by omega, by go_num, by rw [HE.out]; exact HO3.out, HBel3.out⟩
          case measure => simp [intOf]; omega
        · have hb1 : ((k : Int) == i / 8) = false := beq_eq_false_iff_ne.2 c1
          have HE := Pl.hid (show (Pl.sbL (Pl.L s) i.toNat 1).take (k + 1) = (Pl.sbL (Pl.L s) i.toNat 1).take k ++ [Pl.ofI (Pl.at_ (Pl.L s) k)] by
            rw [HT.out, HG.out, if_neg (by omega), Pl.ofI_at])
          clear c1
          go_wp2_with (first | (go_at_call 33; refine (at_walk _ _ _ (by omega) (by omega)).mono ?_; rw [Int.toNat_natCast]; rintro e w' ⟨rfl, rfl⟩) | (at_builtin; refine Mm.wp_appI _ rfl _ _ (by rfl) w.heap.size _ _ (Pl.at_ (Pl.L s) k) (by rfl) (by rfl) HO2.out x0 x1 HL.out HBel2.out.size ?_; intro v3 w3 hown3 hbel3; have HO3 := Pl.hid hown3; have HBel3 := Pl.hid (HBel2.out.trans hbel3); clear hown3 hbel3))
          go_roundw
          case rel => exact ⟨k + 1, by omega, by go_num, by rw [HE.out]; exact HO3.out, HBel3.out⟩
          case measure => simp [intOf]; omega
      · have HK := Pl.hid (show (Pl.sbL (Pl.L s) i.toNat 1).take k = Pl.sbL (Pl.L s) i.toNat 1 from List.take_of_length_le (by rw [HM.out]; omega))
        have hcv := Mm.run_str _ _ _ _ hown
        clear hown hbel
        go_wp2
        go_ret3
        exact ⟨Pl.ret3sii (by rw [HK.out]) rfl rfl, HBel2.out⟩

set_option maxHeartbeats 1600000 in
theorem refsetbit_01 (s : ByteArray) (i : Int) (w : World) (hs : s.size ≤ 140737488351232) (h0 : 0 ≤ i) (d1 : (s.size : Int) ≤ 1048576) (d2 : i ≤ 8388607) (hw : Pl.bitL (Pl.L s) i.toNat = 0) :
    Calls Try.prog 28 #[.string s, .int .i64 i, .int .i64 1] w fun e w' => e = .returned (.tuple #[.string (Pl.B (Pl.sbL (Pl.L s) i.toNat 1)), .int .i64 0, .int .i64 0]) ∧ Below w.heap.size w w' := by
  obtain ⟨m, hm⟩ : ∃ m, m = max s.size (i / 8 + 1).toNat := ⟨_, rfl⟩
  have hm1 : i / 8 + 1 ≤ m := by omega
  have hm2 : m ≤ 1048576 := by omega
  have HM : Hid ((Pl.sbL (Pl.L s) i.toNat 1).length = m) := by show _ = _; rw [Pl.sbL_length, Pl.L_length, hm]; omega
  have HW := Pl.hid hw
  have HQ := Pl.hid (Pl.bit_atI (Pl.L s) i h0)
  by_cases e : i / 8 + 1 < (s.size : Int)
  · have q1 : m ≤ s.size := by omega
    have q2 : s.size ≤ m := by omega
    clear hm hw
    go_enter Try.func28, Try.ntmps28
    go_wp2_with (first | (go_at_call 35; refine (refbit_int _ _ _ (by omega) (by omega)).mono ?_; rw [HW.out]; rintro e w' ⟨rfl, rfl⟩) | (at_make; refine Mm.wp_make0 _ rfl _ _ rfl _ (by rfl) (by rfl) (by omega) (by omega) ?_; intro v0 w1 hown0 hb0; have HO := Pl.hid hown0; have HBel := Pl.hid hb0; clear hown0 hb0))
    go_loopw [12, 53] (fun o j wr => ∃ k : Nat, k ≤ m ∧ j = .int .i64 k ∧ Mm.OwnB wr w.heap.size o ((Pl.sbL (Pl.L s) i.toNat 1).take k) ∧ Below w.heap.size w wr) (fun _ j _ => m - (intOf j).toNat)
    case atStart => exact ⟨0, Nat.zero_le _, rfl, HO.out, HBel.out⟩
    case round =>
      obtain ⟨k, hk, rfl, hown, hbel⟩ := hrel
      have HO2 := Pl.hid hown
      have HBel2 := Pl.hid hbel
      by_cases hlt : k < m
      · clear hown hbel
        have HT := Pl.hid (Pl.take_snoc (Pl.sbL (Pl.L s) i.toNat 1) k (by rw [HM.out]; exact hlt))
        have HG := Pl.hid (Pl.sbL_getD (Pl.L s) i.toNat 1 k (by rw [← Pl.sbL_length (b := 1), HM.out]; exact hlt))
        have HL := Pl.hid (show ((Pl.sbL (Pl.L s) i.toNat 1).take k).length < 140737488355328 by rw [List.length_take]; omega)
        obtain ⟨x0, x1⟩ := Pl.at_bd (Pl.L s) k
        by_cases c1 : (k : Int) = i / 8
        · have hkk : k = i.toNat / 8 := by omega
          have hb1 : ((k : Int) == i / 8) = true := beq_iff_eq.2 c1
          have HN := Pl.hid (show Pl.at_ (Pl.L s) k / 2 ^ (7 - (i % 8).toNat) % 2 = 0 by have := HQ.out; rw [HW.out, show (i / 8).toNat = k by omega] at this; exact this.symm)
          have hkn := Pl.hid (show i.toNat % 8 = (i % 8).toNat by omega)
          have hnb := Pl.nb_bd (Pl.at_ (Pl.L s) k) x0 x1 (i % 8).toNat (by omega)
          rw [Pl.nb_up _ _ HN.out] at hnb
          have y0 : 0 ≤ Pl.at_ (Pl.L s) k + 2 ^ (7 - (i % 8).toNat) := hnb.2.2.1
          have y1 : Pl.at_ (Pl.L s) k + 2 ^ (7 - (i % 8).toNat) ≤ 255 := hnb.2.2.2
          have HE := Pl.hid (show (Pl.sbL (Pl.L s) i.toNat 1).take (k + 1) = (Pl.sbL (Pl.L s) i.toNat 1).take k ++ [Pl.ofI (Pl.at_ (Pl.L s) k + 2 ^ (7 - (i % 8).toNat))] by
            rw [HT.out, HG.out, if_pos hkk, hkn.out, Pl.nb_up _ _ HN.out])
          clear c1 hkk hnb
          go_wp2_with (go_at_call 33; refine (at_walk _ _ _ (by omega) (by omega)).mono ?_; rw [Int.toNat_natCast]; rintro e w' ⟨rfl, rfl⟩)
          go_loop [15, 71] (fun c j => ∃ q : Nat, (q : Int) ≤ 7 - i % 8 ∧ j = .int .i64 q ∧ c = .int .u8 (2 ^ q)) (fun _ j => 8 - (intOf j).toNat)
          case atStart => exact ⟨0, by omega, rfl, rfl⟩
          case round =>
            obtain ⟨q, hq, rfl, rfl⟩ := hrel
            have hpq := Pl.pow_bd q (by omega)
            have hpq0 : 0 ≤ (2 : Int) ^ q := hpq.1
            have hpq1 : (2 : Int) ^ q ≤ 128 := hpq.2
            clear hpq
            by_cases hq2 : (q : Int) < 7 - i % 8
            · have hpr := Pl.pow_bd' q (by omega)
              have HPS := Pl.hid (Pl.pow_step q)
              go_wp2
              go_round
              case rel => exact ⟨q + 1, by omega, by go_num, by rw [HPS.out]⟩
              case measure => simp [intOf]; omega
            · have HQ7 := Pl.hid (show q = 7 - (i % 8).toNat by omega)
              rw [← HQ7.out] at y0 y1 HE
              go_wp2_with (at_builtin; refine Mm.wp_appI _ rfl _ _ (by rfl) w.heap.size _ _ (Pl.at_ (Pl.L s) k + 2 ^ q) (by rfl) (by rfl) HO2.out y0 y1 HL.out HBel2.out.size ?_; intro v3 w3 hown3 hbel3; have HO3 := Pl.hid hown3; have HBel3 := Pl.hid (HBel2.out.trans hbel3); clear hown3 hbel3)
              go_roundw
              case rel => exact ⟨k + 1, by omega, by go_num, by rw [HE.out]; exact HO3.out, HBel3.out⟩
              case measure => simp [intOf]; omega
        · have hb1 : ((k : Int) == i / 8) = false := beq_eq_false_iff_ne.2 c1
          have HE := Pl.hid (show (Pl.sbL (Pl.L s) i.toNat 1).take (k + 1) = (Pl.sbL (Pl.L s) i.toNat 1).take k ++ [Pl.ofI (Pl.at_ (Pl.L s) k)] by
            rw [HT.out, HG.out, if_neg (by omega), Pl.ofI_at])
          clear c1
          go_wp2_with (first | (go_at_call 33; refine (at_walk _ _ _ (by omega) (by omega)).mono ?_; rw [Int.toNat_natCast]; rintro e w' ⟨rfl, rfl⟩) | (at_builtin; refine Mm.wp_appI _ rfl _ _ (by rfl) w.heap.size _ _ (Pl.at_ (Pl.L s) k) (by rfl) (by rfl) HO2.out x0 x1 HL.out HBel2.out.size ?_; intro v3 w3 hown3 hbel3; have HO3 := Pl.hid hown3; have HBel3 := Pl.hid (HBel2.out.trans hbel3); clear hown3 hbel3))
          go_roundw
          case rel => exact ⟨k + 1, by omega, by go_num, by rw [HE.out]; exact HO3.out, HBel3.out⟩
          case measure => simp [intOf]; omega
      · have HK := Pl.hid (show (Pl.sbL (Pl.L s) i.toNat 1).take k = Pl.sbL (Pl.L s) i.toNat 1 from List.take_of_length_le (by rw [HM.out]; omega))
        have hcv := Mm.run_str _ _ _ _ hown
        clear hown hbel
        go_wp2
        go_ret3
        exact ⟨Pl.ret3sii (by rw [HK.out]) rfl rfl, HBel2.out⟩
  · have q1 : (m : Int) ≤ i / 8 + 1 := by omega
    clear hm hw
    go_enter Try.func28, Try.ntmps28
    go_wp2_with (first | (go_at_call 35; refine (refbit_int _ _ _ (by omega) (by omega)).mono ?_; rw [HW.out]; rintro e w' ⟨rfl, rfl⟩) | (at_make; refine Mm.wp_make0 _ rfl _ _ rfl _ (by rfl) (by rfl) (by omega) (by omega) ?_; intro v0 w1 hown0 hb0; have HO := Pl.hid hown0; have HBel := Pl.hid hb0; clear hown0 hb0))
    go_loopw [12, 53] (fun o j wr => ∃ k : Nat, k ≤ m ∧ j = .int .i64 k ∧ Mm.OwnB wr w.heap.size o ((Pl.sbL (Pl.L s) i.toNat 1).take k) ∧ Below w.heap.size w wr) (fun _ j _ => m - (intOf j).toNat)
    case atStart => exact ⟨0, Nat.zero_le _, rfl, HO.out, HBel.out⟩
    case round =>
      obtain ⟨k, hk, rfl, hown, hbel⟩ := hrel
      have HO2 := Pl.hid hown
      have HBel2 := Pl.hid hbel
      by_cases hlt : k < m
      · clear hown hbel
        have HT := Pl.hid (Pl.take_snoc (Pl.sbL (Pl.L s) i.toNat 1) k (by rw [HM.out]; exact hlt))
        have HG := Pl.hid (Pl.sbL_getD (Pl.L s) i.toNat 1 k (by rw [← Pl.sbL_length (b := 1), HM.out]; exact hlt))
        have HL := Pl.hid (show ((Pl.sbL (Pl.L s) i.toNat 1).take k).length < 140737488355328 by rw [List.length_take]; omega)
        obtain ⟨x0, x1⟩ := Pl.at_bd (Pl.L s) k
        by_cases c1 : (k : Int) = i / 8
        · have hkk : k = i.toNat / 8 := by omega
          have hb1 : ((k : Int) == i / 8) = true := beq_iff_eq.2 c1
          have HN := Pl.hid (show Pl.at_ (Pl.L s) k / 2 ^ (7 - (i % 8).toNat) % 2 = 0 by have := HQ.out; rw [HW.out, show (i / 8).toNat = k by omega] at this; exact this.symm)
          have hkn := Pl.hid (show i.toNat % 8 = (i % 8).toNat by omega)
          have hnb := Pl.nb_bd (Pl.at_ (Pl.L s) k) x0 x1 (i % 8).toNat (by omega)
          rw [Pl.nb_up _ _ HN.out] at hnb
          have y0 : 0 ≤ Pl.at_ (Pl.L s) k + 2 ^ (7 - (i % 8).toNat) := hnb.2.2.1
          have y1 : Pl.at_ (Pl.L s) k + 2 ^ (7 - (i % 8).toNat) ≤ 255 := hnb.2.2.2
          have HE := Pl.hid (show (Pl.sbL (Pl.L s) i.toNat 1).take (k + 1) = (Pl.sbL (Pl.L s) i.toNat 1).take k ++ [Pl.ofI (Pl.at_ (Pl.L s) k + 2 ^ (7 - (i % 8).toNat))] by
            rw [HT.out, HG.out, if_pos hkk, hkn.out, Pl.nb_up _ _ HN.out])
          clear c1 hkk hnb
          go_wp2_with (go_at_call 33; refine (at_walk _ _ _ (by omega) (by omega)).mono ?_; rw [Int.toNat_natCast]; rintro e w' ⟨rfl, rfl⟩)
          go_loop [15, 71] (fun c j => ∃ q : Nat, (q : Int) ≤ 7 - i % 8 ∧ j = .int .i64 q ∧ c = .int .u8 (2 ^ q)) (fun _ j => 8 - (intOf j).toNat)
          case atStart => exact ⟨0, by omega, rfl, rfl⟩
          case round =>
            obtain ⟨q, hq, rfl, rfl⟩ := hrel
            have hpq := Pl.pow_bd q (by omega)
            have hpq0 : 0 ≤ (2 : Int) ^ q := hpq.1
            have hpq1 : (2 : Int) ^ q ≤ 128 := hpq.2
            clear hpq
            by_cases hq2 : (q : Int) < 7 - i % 8
            · have hpr := Pl.pow_bd' q (by omega)
              have HPS := Pl.hid (Pl.pow_step q)
              go_wp2
              go_round
              case rel => exact ⟨q + 1, by omega, by go_num, by rw [HPS.out]⟩
              case measure => simp [intOf]; omega
            · have HQ7 := Pl.hid (show q = 7 - (i % 8).toNat by omega)
              rw [← HQ7.out] at y0 y1 HE
              go_wp2_with (at_builtin; refine Mm.wp_appI _ rfl _ _ (by rfl) w.heap.size _ _ (Pl.at_ (Pl.L s) k + 2 ^ q) (by rfl) (by rfl) HO2.out y0 y1 HL.out HBel2.out.size ?_; intro v3 w3 hown3 hbel3; have HO3 := Pl.hid hown3; have HBel3 := Pl.hid (HBel2.out.trans hbel3); clear hown3 hbel3)
              go_roundw
              case rel => exact ⟨k + 1, by omega, by go_num, by rw [HE.out]; exact HO3.out, HBel3.out⟩
              case measure => simp [intOf]; omega
        · have hb1 : ((k : Int) == i / 8) = false := beq_eq_false_iff_ne.2 c1
          have HE := Pl.hid (show (Pl.sbL (Pl.L s) i.toNat 1).take (k + 1) = (Pl.sbL (Pl.L s) i.toNat 1).take k ++ [Pl.ofI (Pl.at_ (Pl.L s) k)] by
            rw [HT.out, HG.out, if_neg (by omega), Pl.ofI_at])
          clear c1
          go_wp2_with (first | (go_at_call 33; refine (at_walk _ _ _ (by omega) (by omega)).mono ?_; rw [Int.toNat_natCast]; rintro e w' ⟨rfl, rfl⟩) | (at_builtin; refine Mm.wp_appI _ rfl _ _ (by rfl) w.heap.size _ _ (Pl.at_ (Pl.L s) k) (by rfl) (by rfl) HO2.out x0 x1 HL.out HBel2.out.size ?_; intro v3 w3 hown3 hbel3; have HO3 := Pl.hid hown3; have HBel3 := Pl.hid (HBel2.out.trans hbel3); clear hown3 hbel3))
          go_roundw
          case rel => exact ⟨k + 1, by omega, by go_num, by rw [HE.out]; exact HO3.out, HBel3.out⟩
          case measure => simp [intOf]; omega
      · have HK := Pl.hid (show (Pl.sbL (Pl.L s) i.toNat 1).take k = Pl.sbL (Pl.L s) i.toNat 1 from List.take_of_length_le (by rw [HM.out]; omega))
        have hcv := Mm.run_str _ _ _ _ hown
        clear hown hbel
        go_wp2
        go_ret3
        exact ⟨Pl.ret3sii (by rw [HK.out]) rfl rfl, HBel2.out⟩

set_option maxHeartbeats 1600000 in
theorem refsetbit_10 (s : ByteArray) (i : Int) (w : World) (hs : s.size ≤ 140737488351232) (h0 : 0 ≤ i) (d1 : (s.size : Int) ≤ 1048576) (d2 : i ≤ 8388607) (hw : Pl.bitL (Pl.L s) i.toNat = 1) :
    Calls Try.prog 28 #[.string s, .int .i64 i, .int .i64 0] w fun e w' => e = .returned (.tuple #[.string (Pl.B (Pl.sbL (Pl.L s) i.toNat 0)), .int .i64 1, .int .i64 0]) ∧ Below w.heap.size w w' := by
  obtain ⟨m, hm⟩ : ∃ m, m = max s.size (i / 8 + 1).toNat := ⟨_, rfl⟩
  have hm1 : i / 8 + 1 ≤ m := by omega
  have hm2 : m ≤ 1048576 := by omega
  have HM : Hid ((Pl.sbL (Pl.L s) i.toNat 0).length = m) := by show _ = _; rw [Pl.sbL_length, Pl.L_length, hm]; omega
  have HW := Pl.hid hw
  have HQ := Pl.hid (Pl.bit_atI (Pl.L s) i h0)
  by_cases e : i / 8 + 1 < (s.size : Int)
  · have q1 : m ≤ s.size := by omega
    have q2 : s.size ≤ m := by omega
    clear hm hw
    go_enter Try.func28, Try.ntmps28
    go_wp2_with (first | (go_at_call 35; refine (refbit_int _ _ _ (by omega) (by omega)).mono ?_; rw [HW.out]; rintro e w' ⟨rfl, rfl⟩) | (at_make; refine Mm.wp_make0 _ rfl _ _ rfl _ (by rfl) (by rfl) (by omega) (by omega) ?_; intro v0 w1 hown0 hb0; have HO := Pl.hid hown0; have HBel := Pl.hid hb0; clear hown0 hb0))
    go_loopw [12, 53] (fun o j wr => ∃ k : Nat, k ≤ m ∧ j = .int .i64 k ∧ Mm.OwnB wr w.heap.size o ((Pl.sbL (Pl.L s) i.toNat 0).take k) ∧ Below w.heap.size w wr) (fun _ j _ => m - (intOf j).toNat)
    case atStart => exact ⟨0, Nat.zero_le _, rfl, HO.out, HBel.out⟩
    case round =>
      obtain ⟨k, hk, rfl, hown, hbel⟩ := hrel
      have HO2 := Pl.hid hown
      have HBel2 := Pl.hid hbel
      by_cases hlt : k < m
      · clear hown hbel
        have HT := Pl.hid (Pl.take_snoc (Pl.sbL (Pl.L s) i.toNat 0) k (by rw [HM.out]; exact hlt))
        have HG := Pl.hid (Pl.sbL_getD (Pl.L s) i.toNat 0 k (by rw [← Pl.sbL_length (b := 0), HM.out]; exact hlt))
        have HL := Pl.hid (show ((Pl.sbL (Pl.L s) i.toNat 0).take k).length < 140737488355328 by rw [List.length_take]; omega)
        obtain ⟨x0, x1⟩ := Pl.at_bd (Pl.L s) k
        by_cases c1 : (k : Int) = i / 8
        · have hkk : k = i.toNat / 8 := by omega
          have hb1 : ((k : Int) == i / 8) = true := beq_iff_eq.2 c1
          have HN := Pl.hid (show Pl.at_ (Pl.L s) k / 2 ^ (7 - (i % 8).toNat) % 2 = 1 by have := HQ.out; rw [HW.out, show (i / 8).toNat = k by omega] at this; exact this.symm)
          have hkn := Pl.hid (show i.toNat % 8 = (i % 8).toNat by omega)
          have hnb := Pl.nb_bd (Pl.at_ (Pl.L s) k) x0 x1 (i % 8).toNat (by omega)
          rw [Pl.nb_down _ _ HN.out] at hnb
          have y0 : 0 ≤ Pl.at_ (Pl.L s) k - 2 ^ (7 - (i % 8).toNat) := hnb.1
          have y1 : Pl.at_ (Pl.L s) k - 2 ^ (7 - (i % 8).toNat) ≤ 255 := hnb.2.1
          have HE := Pl.hid (show (Pl.sbL (Pl.L s) i.toNat 0).take (k + 1) = (Pl.sbL (Pl.L s) i.toNat 0).take k ++ [Pl.ofI (Pl.at_ (Pl.L s) k - 2 ^ (7 - (i % 8).toNat))] by
            rw [HT.out, HG.out, if_pos hkk, hkn.out, Pl.nb_down _ _ HN.out])
          clear c1 hkk hnb
          go_wp2_with (go_at_call 33; refine (at_walk _ _ _ (by omega) (by omega)).mono ?_; rw [Int.toNat_natCast]; rintro e w' ⟨rfl, rfl⟩)
          go_loop [15, 71] (fun c j => ∃ q : Nat, (q : Int) ≤ 7 - i % 8 ∧ j = .int .i64 q ∧ c = .int .u8 (2 ^ q)) (fun _ j => 8 - (intOf j).toNat)
          case atStart => exact ⟨0, by omega, rfl, rfl⟩
          case round =>
            obtain ⟨q, hq, rfl, rfl⟩ := hrel
            have hpq := Pl.pow_bd q (by omega)
            have hpq0 : 0 ≤ (2 : Int) ^ q := hpq.1
            have hpq1 : (2 : Int) ^ q ≤ 128 := hpq.2
            clear hpq
            by_cases hq2 : (q : Int) < 7 - i % 8
            · have hpr := Pl.pow_bd' q (by omega)
              have HPS := Pl.hid (Pl.pow_step q)
              go_wp2
              go_round
              case rel => exact ⟨q + 1, by omega, by go_num, by rw [HPS.out]⟩
              case measure => simp [intOf]; omega
            · have HQ7 := Pl.hid (show q = 7 - (i % 8).toNat by omega)
              rw [← HQ7.out] at y0 y1 HE
              go_wp2_with (at_builtin; refine Mm.wp_appI _ rfl _ _ (by rfl) w.heap.size _ _ (Pl.at_ (Pl.L s) k - 2 ^ q) (by rfl) (by rfl) HO2.out y0 y1 HL.out HBel2.out.size ?_; intro v3 w3 hown3 hbel3; have HO3 := Pl.hid hown3; have HBel3 := Pl.hid (HBel2.out.trans hbel3); clear hown3 hbel3)
              go_roundw
              case rel => exact ⟨k + 1, by omega, by go_num, by rw [HE.out]; exact HO3.out, HBel3.out⟩
              case measure => simp [intOf]; omega
        · have hb1 : ((k : Int) == i / 8) = false := beq_eq_false_iff_ne.2 c1
          have HE := Pl.hid (show (Pl.sbL (Pl.L s) i.toNat 0).take (k + 1) = (Pl.sbL (Pl.L s) i.toNat 0).take k ++ [Pl.ofI (Pl.at_ (Pl.L s) k)] by
            rw [HT.out, HG.out, if_neg (by omega), Pl.ofI_at])
          clear c1
          go_wp2_with (first | (go_at_call 33; refine (at_walk _ _ _ (by omega) (by omega)).mono ?_; rw [Int.toNat_natCast]; rintro e w' ⟨rfl, rfl⟩) | (at_builtin; refine Mm.wp_appI _ rfl _ _ (by rfl) w.heap.size _ _ (Pl.at_ (Pl.L s) k) (by rfl) (by rfl) HO2.out x0 x1 HL.out HBel2.out.size ?_; intro v3 w3 hown3 hbel3; have HO3 := Pl.hid hown3; have HBel3 := Pl.hid (HBel2.out.trans hbel3); clear hown3 hbel3))
          go_roundw
          case rel => exact ⟨k + 1, by omega, by go_num, by rw [HE.out]; exact HO3.out, HBel3.out⟩
          case measure => simp [intOf]; omega
      · have HK := Pl.hid (show (Pl.sbL (Pl.L s) i.toNat 0).take k = Pl.sbL (Pl.L s) i.toNat 0 from List.take_of_length_le (by rw [HM.out]; omega))
        have hcv := Mm.run_str _ _ _ _ hown
        clear hown hbel
        go_wp2
        go_ret3
        exact ⟨Pl.ret3sii (by rw [HK.out]) rfl rfl, HBel2.out⟩
  · have q1 : (m : Int) ≤ i / 8 + 1 := by omega
    clear hm hw
    go_enter Try.func28, Try.ntmps28
    go_wp2_with (first | (go_at_call 35; refine (refbit_int _ _ _ (by omega) (by omega)).mono ?_; rw [HW.out]; rintro e w' ⟨rfl, rfl⟩) | (at_make; refine Mm.wp_make0 _ rfl _ _ rfl _ (by rfl) (by rfl) (by omega) (by omega) ?_; intro v0 w1 hown0 hb0; have HO := Pl.hid hown0; have HBel := Pl.hid hb0; clear hown0 hb0))
    go_loopw [12, 53] (fun o j wr => ∃ k : Nat, k ≤ m ∧ j = .int .i64 k ∧ Mm.OwnB wr w.heap.size o ((Pl.sbL (Pl.L s) i.toNat 0).take k) ∧ Below w.heap.size w wr) (fun _ j _ => m - (intOf j).toNat)
    case atStart => exact ⟨0, Nat.zero_le _, rfl, HO.out, HBel.out⟩
    case round =>
      obtain ⟨k, hk, rfl, hown, hbel⟩ := hrel
      have HO2 := Pl.hid hown
      have HBel2 := Pl.hid hbel
      by_cases hlt : k < m
      · clear hown hbel
        have HT := Pl.hid (Pl.take_snoc (Pl.sbL (Pl.L s) i.toNat 0) k (by rw [HM.out]; exact hlt))
        have HG := Pl.hid (Pl.sbL_getD (Pl.L s) i.toNat 0 k (by rw [← Pl.sbL_length (b := 0), HM.out]; exact hlt))
        have HL := Pl.hid (show ((Pl.sbL (Pl.L s) i.toNat 0).take k).length < 140737488355328 by rw [List.length_take]; omega)
        obtain ⟨x0, x1⟩ := Pl.at_bd (Pl.L s) k
        by_cases c1 : (k : Int) = i / 8
        · have hkk : k = i.toNat / 8 := by omega
          have hb1 : ((k : Int) == i / 8) = true := beq_iff_eq.2 c1
          have HN := Pl.hid (show Pl.at_ (Pl.L s) k / 2 ^ (7 - (i % 8).toNat) % 2 = 1 by have := HQ.out; rw [HW.out, show (i / 8).toNat = k by omega] at this; exact this.symm)
          have hkn := Pl.hid (show i.toNat % 8 = (i % 8).toNat by omega)
          have hnb := Pl.nb_bd (Pl.at_ (Pl.L s) k) x0 x1 (i % 8).toNat (by omega)
          rw [Pl.nb_down _ _ HN.out] at hnb
          have y0 : 0 ≤ Pl.at_ (Pl.L s) k - 2 ^ (7 - (i % 8).toNat) := hnb.1
          have y1 : Pl.at_ (Pl.L s) k - 2 ^ (7 - (i % 8).toNat) ≤ 255 := hnb.2.1
          have HE := Pl.hid (show (Pl.sbL (Pl.L s) i.toNat 0).take (k + 1) = (Pl.sbL (Pl.L s) i.toNat 0).take k ++ [Pl.ofI (Pl.at_ (Pl.L s) k - 2 ^ (7 - (i % 8).toNat))] by
            rw [HT.out, HG.out, if_pos hkk, hkn.out, Pl.nb_down _ _ HN.out])
          clear c1 hkk hnb
          go_wp2_with (go_at_call 33; refine (at_walk _ _ _ (by omega) (by omega)).mono ?_; rw [Int.toNat_natCast]; rintro e w' ⟨rfl, rfl⟩)
          go_loop [15, 71] (fun c j => ∃ q : Nat, (q : Int) ≤ 7 - i % 8 ∧ j = .int .i64 q ∧ c = .int .u8 (2 ^ q)) (fun _ j => 8 - (intOf j).toNat)
          case atStart => exact ⟨0, by omega, rfl, rfl⟩
          case round =>
            obtain ⟨q, hq, rfl, rfl⟩ := hrel
            have hpq := Pl.pow_bd q (by omega)
            have hpq0 : 0 ≤ (2 : Int) ^ q := hpq.1
            have hpq1 : (2 : Int) ^ q ≤ 128 := hpq.2
            clear hpq
            by_cases hq2 : (q : Int) < 7 - i % 8
            · have hpr := Pl.pow_bd' q (by omega)
              have HPS := Pl.hid (Pl.pow_step q)
              go_wp2
              go_round
              case rel => exact ⟨q + 1, by omega, by go_num, by rw [HPS.out]⟩
              case measure => simp [intOf]; omega
            · have HQ7 := Pl.hid (show q = 7 - (i % 8).toNat by omega)
              rw [← HQ7.out] at y0 y1 HE
              go_wp2_with (at_builtin; refine Mm.wp_appI _ rfl _ _ (by rfl) w.heap.size _ _ (Pl.at_ (Pl.L s) k - 2 ^ q) (by rfl) (by rfl) HO2.out y0 y1 HL.out HBel2.out.size ?_; intro v3 w3 hown3 hbel3; have HO3 := Pl.hid hown3; have HBel3 := Pl.hid (HBel2.out.trans hbel3); clear hown3 hbel3)
              go_roundw
              case rel => exact ⟨k + 1, by omega, by go_num, by rw [HE.out]; exact HO3.out, HBel3.out⟩
              case measure => simp [intOf]; omega
        · have hb1 : ((k : Int) == i / 8) = false := beq_eq_false_iff_ne.2 c1
          have HE := Pl.hid (show (Pl.sbL (Pl.L s) i.toNat 0).take (k + 1) = (Pl.sbL (Pl.L s) i.toNat 0).take k ++ [Pl.ofI (Pl.at_ (Pl.L s) k)] by
            rw [HT.out, HG.out, if_neg (by omega), Pl.ofI_at])
          clear c1
          go_wp2_with (first | (go_at_call 33; refine (at_walk _ _ _ (by omega) (by omega)).mono ?_; rw [Int.toNat_natCast]; rintro e w' ⟨rfl, rfl⟩) | (at_builtin; refine Mm.wp_appI _ rfl _ _ (by rfl) w.heap.size _ _ (Pl.at_ (Pl.L s) k) (by rfl) (by rfl) HO2.out x0 x1 HL.out HBel2.out.size ?_; intro v3 w3 hown3 hbel3; have HO3 := Pl.hid hown3; have HBel3 := Pl.hid (HBel2.out.trans hbel3); clear hown3 hbel3))
          go_roundw
          case rel => exact ⟨k + 1, by omega, by go_num, by rw [HE.out]; exact HO3.out, HBel3.out⟩
          case measure => simp [intOf]; omega
      · have HK := Pl.hid (show (Pl.sbL (Pl.L s) i.toNat 0).take k = Pl.sbL (Pl.L s) i.toNat 0 from List.take_of_length_le (by rw [HM.out]; omega))
        have hcv := Mm.run_str _ _ _ _ hown
        clear hown hbel
        go_wp2
        go_ret3
        exact ⟨Pl.ret3sii (by rw [HK.out]) rfl rfl, HBel2.out⟩
end Go.Proofs.Ytenacajpgpkdnaa
