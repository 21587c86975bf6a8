/- Contracts of patch.SetBit and the reference's SetBit. Conditions: texts within the form's reach; numbers of 64 bits. -/
import Derived.Test.YtenacajpgpkdnaaPatC
import Derived.Test.YtenacajpgpkdnaaPatE
namespace Go.Proofs.Ytenacajpgpkdnaa
open Go.RowKit

theorem setbit_walk (s : ByteArray) (i b : Int) (w : World) (hs : s.size ≤ 140737488351232) :
    Calls Try.prog 29 #[.string s, .int .i64 i, .int .i64 b] w fun e w' => e = .returned (.tuple #[.string (Pl.sbS s i b), .int .i64 (Pl.sbW s i b), .int .i64 (Pl.sbC s i b)]) ∧ Below w.heap.size w w' := by
  by_cases ha : Pl.sbArg i b
  · have H0 := Pl.hid (Pl.sb_arg (s := s) ha)
    by_cases h : 0 ≤ i ∧ i < 1073741824
    · have hc := Pl.bitC_in h
      have hb0 : (b == 0) = false := beq_eq_false_iff_ne.2 (by unfold Pl.sbArg at ha; omega)
      have hb1 : (b == 1) = false := beq_eq_false_iff_ne.2 (by unfold Pl.sbArg at ha; omega)
      have hb2 : (b != 0) = true := by rw [bne, hb0]; rfl
      have hb3 : (b != 1) = true := by rw [bne, hb1]; rfl
      clear ha h
      go_enter Try.func29, Try.ntmps29
      go_wp2_with fail
      refine (bit_walk _ _ _).mono ?_
      rintro e w1 ⟨rfl, hbel⟩
      have HBel := Pl.hid hbel
      clear hbel
      go_wp2_with fail
      go_ret3
      exact ⟨Pl.ret3sii H0.out.1.symm H0.out.2.1.symm H0.out.2.2.symm, HBel.out⟩
    · have hc := Pl.bitC_out h
      clear ha h
      go_enter Try.func29, Try.ntmps29
      go_wp2_with fail
      refine (bit_walk _ _ _).mono ?_
      rintro e w1 ⟨rfl, hbel⟩
      have HBel := Pl.hid hbel
      clear hbel
      go_wp2_with fail
      go_ret3
      exact ⟨Pl.ret3sii H0.out.1.symm H0.out.2.1.symm H0.out.2.2.symm, HBel.out⟩
  · have h : 0 ≤ i ∧ i < 1073741824 := by unfold Pl.sbArg at ha; omega
    have hc := Pl.bitC_in h
    have HV := Pl.hid (Pl.bitV_in (l := Pl.L s) h)
    have h0 : 0 ≤ i := h.1
    have h1 : i ≤ 1073741823 := by omega
    have hbb : b = 0 ∨ b = 1 := by unfold Pl.sbArg at ha; omega
    by_cases hl : Pl.sbLong s i
    · have H0 := Pl.hid (Pl.sb_long ha hl)
      rcases hbb with rfl | rfl
      all_goals
        rcases Nat.lt_or_ge 1048576 s.size with d | d
        · clear ha h hl
          go_enter Try.func29, Try.ntmps29
          go_wp2_with fail
          refine (bit_walk _ _ _).mono ?_
          rintro e w1 ⟨rfl, hbel⟩
          have HBel := Pl.hid hbel
          clear hbel
          go_wp2_with fail
          refine (place_bit _ _ (by omega) (by omega)).mono ?_
          rintro e w2 ⟨rfl, hbel2⟩
          have HBel2 := Pl.hid (HBel.out.trans (hbel2.mono HBel.out.size))
          clear hbel2
          go_wp2_with fail
          go_ret3
          exact ⟨Pl.ret3sii H0.out.1.symm H0.out.2.1.symm H0.out.2.2.symm, HBel2.out⟩
        · have d2 : 1048576 ≤ i / 8 := by unfold Pl.sbLong at hl; omega
          clear ha h hl
          go_enter Try.func29, Try.ntmps29
          go_wp2_with fail
          refine (bit_walk _ _ _).mono ?_
          rintro e w1 ⟨rfl, hbel⟩
          have HBel := Pl.hid hbel
          clear hbel
          go_wp2_with fail
          refine (place_bit _ _ (by omega) (by omega)).mono ?_
          rintro e w2 ⟨rfl, hbel2⟩
          have HBel2 := Pl.hid (HBel.out.trans (hbel2.mono HBel.out.size))
          clear hbel2
          go_wp2_with fail
          go_ret3
          exact ⟨Pl.ret3sii H0.out.1.symm H0.out.2.1.symm H0.out.2.2.symm, HBel2.out⟩
    · have d1 : (s.size : Int) ≤ 1048576 := by unfold Pl.sbLong at hl; omega
      have d2 : i / 8 ≤ 1048575 := by unfold Pl.sbLong at hl; omega
      have H0 := Pl.hid (Pl.sb_ok ha hl)
      obtain ⟨m, hm⟩ : ∃ m, m = max s.size (i / 8 + 1).toNat := ⟨_, rfl⟩
      have hm1 : (i / 8).toNat < m := by omega
      have hm2 : m ≤ 1048576 := by omega
      have HM := Pl.hid hm
      have HL : Hid ((Pl.filL (Pl.L s) (i / 8 + 1).toNat).length = m) := by show _ = _; rw [Pl.filL_length, Pl.L_length, hm]
      obtain ⟨x0, x1⟩ := Pl.at_bd (Pl.L s) (i / 8).toNat
      have HX := Pl.hid (Pl.nb_bd (Pl.at_ (Pl.L s) (i / 8).toNat) x0 x1 (i % 8).toNat (by omega))
      have HA := Pl.andNot_msk (Pl.at_ (Pl.L s) (i / 8).toNat) x0 x1 (i % 8).toNat (by omega)
      have HF := Pl.hid (Pl.sb_setI (Pl.L s) i b h0)
      clear hm
      rcases hbb with rfl | rfl
      · clear ha h hl
        go_enter Try.func29, Try.ntmps29
        go_wp2_with fail
        refine (bit_walk _ _ _).mono ?_
        rintro e wa ⟨rfl, hbel⟩
        have HBel := Pl.hid hbel
        clear hbel
        go_wp2_with fail
        refine (place_bit _ _ (by omega) (by omega)).mono ?_
        rintro e wb ⟨rfl, hbel2⟩
        have HBel2 := Pl.hid (HBel.out.trans (hbel2.mono HBel.out.size))
        clear hbel2
        go_wp2_with fail
        refine (filled_walk _ _ _ (by omega) (by omega) hs).mono ?_
        rw [← HM.out]
        rintro e wc ⟨rfl, hb3, hz3, hbel3⟩
        have HB := Pl.hid hb3
        have HBel3 := Pl.hid (HBel2.out.trans (hbel3.mono HBel2.out.size))
        have hcell := hb3.cell (i / 8).toNat (by rw [HL.out]; exact hm1)
        rw [Pl.at_fil] at hcell
        clear hb3 hbel3 hz3
        go_wp2_with (first | (refine Mm.wp_storeB _ rfl _ _ (by rfl) wb.heap.size (i / 8).toNat _ (Pl.nb (Pl.at_ (Pl.L s) (i / 8).toNat) (i % 8).toNat 0) HB.out (by rfl) (by rfl) HX.out.1 HX.out.2.1 (by rw [HL.out]; exact hm1) ?_; intro w2 hb2 hz2 hbel2; have HB2 := Pl.hid hb2; have HBel4 := Pl.hid (HBel3.out.trans (hbel2 _ HBel2.out.size)); have HL2 := Pl.hid (Pl.set_len (Pl.filL (Pl.L s) (i / 8 + 1).toNat) (i / 8).toNat (Pl.ofI (Pl.nb (Pl.at_ (Pl.L s) (i / 8).toNat) (i % 8).toNat 0))); clear hb2 hz2 hbel2) | (refine Mm.wp_strN _ rfl _ (by rfl) wb.heap.size m m _ HB2.out (by rfl) (by rw [HL2.out, HL.out]) ?_))
        go_ret3
        exact ⟨Pl.ret3sii (by rw [H0.out.1, ← HF.out]) (by rw [H0.out.2.1, HV.out]) H0.out.2.2.symm, HBel4.out⟩
      · have HO := Pl.or_msk (Pl.at_ (Pl.L s) (i / 8).toNat) x0 x1 (i % 8).toNat (by omega)
        clear ha h hl
        go_enter Try.func29, Try.ntmps29
        go_wp2_with fail
        refine (bit_walk _ _ _).mono ?_
        rintro e wa ⟨rfl, hbel⟩
        have HBel := Pl.hid hbel
        clear hbel
        go_wp2_with fail
        refine (place_bit _ _ (by omega) (by omega)).mono ?_
        rintro e wb ⟨rfl, hbel2⟩
        have HBel2 := Pl.hid (HBel.out.trans (hbel2.mono HBel.out.size))
        clear hbel2
        go_wp2_with fail
        refine (filled_walk _ _ _ (by omega) (by omega) hs).mono ?_
        rw [← HM.out]
        rintro e wc ⟨rfl, hb3, hz3, hbel3⟩
        have HB := Pl.hid hb3
        have HBel3 := Pl.hid (HBel2.out.trans (hbel3.mono HBel2.out.size))
        have hcell := hb3.cell (i / 8).toNat (by rw [HL.out]; exact hm1)
        rw [Pl.at_fil] at hcell
        clear hb3 hbel3 hz3
        go_wp2_with (first | (refine Mm.wp_storeB _ rfl _ _ (by rfl) wb.heap.size (i / 8).toNat _ (Pl.nb (Pl.at_ (Pl.L s) (i / 8).toNat) (i % 8).toNat 0) HB.out (by rfl) (by rfl) HX.out.1 HX.out.2.1 (by rw [HL.out]; exact hm1) ?_; intro w2 hb2 hz2 hbel2; have HB2 := Pl.hid hb2; have HBel4 := Pl.hid (HBel3.out.trans (hbel2 _ HBel2.out.size)); have HL2 := Pl.hid (Pl.set_len (Pl.filL (Pl.L s) (i / 8 + 1).toNat) (i / 8).toNat (Pl.ofI (Pl.nb (Pl.at_ (Pl.L s) (i / 8).toNat) (i % 8).toNat 0))); have hcell2 := hb2.cell (i / 8).toNat (by rw [List.length_set, HL.out]; exact hm1); rw [Pl.at_set _ _ _ (by rw [HL.out]; exact hm1), Pl.ofI_nat HX.out.1 HX.out.2.1] at hcell2; clear hb2 hz2 hbel2) | (refine Mm.wp_storeB _ rfl _ _ (by rfl) wb.heap.size (i / 8).toNat _ (Pl.nb (Pl.at_ (Pl.L s) (i / 8).toNat) (i % 8).toNat 1) HB2.out (by rfl) (by rfl) HX.out.2.2.1 HX.out.2.2.2 (by rw [HL2.out, HL.out]; exact hm1) ?_; intro w3 hb3 hz3 hbel3; rw [List.set_set] at hb3; have HB3 := Pl.hid hb3; have HBel5 := Pl.hid (HBel4.out.trans (hbel3 _ HBel2.out.size)); have HL3 := Pl.hid (Pl.set_len (Pl.filL (Pl.L s) (i / 8 + 1).toNat) (i / 8).toNat (Pl.ofI (Pl.nb (Pl.at_ (Pl.L s) (i / 8).toNat) (i % 8).toNat 1))); clear hb3 hz3 hbel3) | (refine Mm.wp_strN _ rfl _ (by rfl) wb.heap.size m m _ HB3.out (by rfl) (by rw [HL3.out, HL.out]) ?_))
        go_ret3
        exact ⟨Pl.ret3sii (by rw [H0.out.1, ← HF.out]) (by rw [H0.out.2.1, HV.out]) H0.out.2.2.symm, HBel5.out⟩

theorem refsetbit_bad (s : ByteArray) (i b : Int) (w : World) (ha : Pl.sbArg i b) :
    Calls Try.prog 28 #[.string s, .int .i64 i, .int .i64 b] w fun e w' => e = .returned (.tuple #[.string (Pl.sbS s i b), .int .i64 (Pl.sbW s i b), .int .i64 (Pl.sbC s i b)]) ∧ Below w.heap.size w w' := by
  have H0 := Pl.hid (Pl.sb_arg (s := s) ha)
  rcases Int.lt_or_le i 0 with c1 | c1
  · clear ha
    go_enter Try.func28, Try.ntmps28
    go_wp2_with fail
    go_ret3
    exact ⟨Pl.ret3sii H0.out.1.symm H0.out.2.1.symm H0.out.2.2.symm, Below.refl _ _⟩
  · rcases Int.lt_or_le i 1073741824 with c2 | c2
    · rcases Int.lt_or_le b 0 with c3 | c3
      · clear ha
        go_enter Try.func28, Try.ntmps28
        go_wp2_with fail
        go_ret3
        exact ⟨Pl.ret3sii H0.out.1.symm H0.out.2.1.symm H0.out.2.2.symm, Below.refl _ _⟩
      · have c4 : 1 < b := by unfold Pl.sbArg at ha; omega
        clear ha
        go_enter Try.func28, Try.ntmps28
        go_wp2_with fail
        go_ret3
        exact ⟨Pl.ret3sii H0.out.1.symm H0.out.2.1.symm H0.out.2.2.symm, Below.refl _ _⟩
    · clear ha
      go_enter Try.func28, Try.ntmps28
      go_wp2_with fail
      go_ret3
      exact ⟨Pl.ret3sii H0.out.1.symm H0.out.2.1.symm H0.out.2.2.symm, Below.refl _ _⟩

theorem refsetbit_long (s : ByteArray) (i b : Int) (w : World) (ha : ¬ Pl.sbArg i b) (hl : Pl.sbLong s i) :
    Calls Try.prog 28 #[.string s, .int .i64 i, .int .i64 b] w fun e w' => e = .returned (.tuple #[.string (Pl.sbS s i b), .int .i64 (Pl.sbW s i b), .int .i64 (Pl.sbC s i b)]) ∧ Below w.heap.size w w' := by
  have H0 := Pl.hid (Pl.sb_long ha hl)
  have h0 : 0 ≤ i := by unfold Pl.sbArg at ha; omega
  have h1 : i ≤ 1073741823 := by unfold Pl.sbArg at ha; omega
  have h2 : 0 ≤ b := by unfold Pl.sbArg at ha; omega
  have h3 : b ≤ 1 := by unfold Pl.sbArg at ha; omega
  rcases Nat.lt_or_ge 1048576 s.size with d | d
  · clear ha hl
    go_enter Try.func28, Try.ntmps28
    go_wp2_with fail
    go_ret3
    exact ⟨Pl.ret3sii H0.out.1.symm H0.out.2.1.symm H0.out.2.2.symm, Below.refl _ _⟩
  · have d2 : 8388608 ≤ i := by unfold Pl.sbLong at hl; omega
    clear ha hl
    go_enter Try.func28, Try.ntmps28
    go_wp2_with fail
    go_ret3
    exact ⟨Pl.ret3sii H0.out.1.symm H0.out.2.1.symm H0.out.2.2.symm, Below.refl _ _⟩
end Go.Proofs.Ytenacajpgpkdnaa
