/- Contracts of patch.filled, patch.Overlay and the reference's Overlay. Conditions: texts within the form's reach; numbers of 64 bits. -/
import Derived.Test.YtenacajpgpkdnaaPatB
import Derived.Test.YtenacajpgpkdnaaPlainP
namespace Go.Proofs.Ytenacajpgpkdnaa
open Go.RowKit

theorem filled_walk (s : ByteArray) (n : Int) (w : World) (h0 : 0 ≤ n) (h1 : n ≤ 1099511627776) (hs : s.size ≤ 140737488351232) :
    Calls Try.prog 34 #[.string s, .int .i64 n] w fun e w' => e = .returned (.slice (some ⟨w.heap.size, 0, none⟩) (max s.size n.toNat) (max s.size n.toNat)) ∧
      Mm.BlkB w' w.heap.size (Pl.filL (Pl.L s) n.toNat) ∧ w'.heap.size = w.heap.size + 1 ∧ Below w.heap.size w w' := by
  by_cases hlt : (s.size : Int) < n
  · have HM : Hid (max s.size n.toNat = n.toNat) := by show _ = _; omega
    have HF := Pl.hid (Pl.fil_spl (Pl.L s) n.toNat n.toNat (by rw [Pl.L_length]; omega) (by rw [Pl.L_length]; omega))
    rw [HM.out]
    go_enter Try.func34, Try.ntmps34
    go_wp2_with (first | (at_make; refine Mm.wp_makeN _ rfl _ _ rfl n (by rfl) (by rfl) h0 (by omega) ?_; intro w1 hb hz hbel; have HB := Pl.hid hb; have HZ := Pl.hid hz; have HBel := Pl.hid hbel; clear hb hz hbel) | (refine Mm.wp_copystr _ rfl _ _ (by rfl) w.heap.size 0 n.toNat n.toNat _ s HB.out (by rfl) (by rfl) (by omega) (by simp; omega) ?_; intro w2 hb2 hz2 hbel2; have HB2 := Pl.hid hb2; have HZ2 := Pl.hid (hz2.trans HZ.out); have HBel2 := Pl.hid (HBel.out.trans (hbel2 _ (Nat.le_refl _))); clear hb2 hz2 hbel2))
    go_ret
    exact ⟨rfl, HF.out ▸ HB2.out, HZ2.out, HBel2.out⟩
  · have HM : Hid (max s.size n.toNat = s.size) := by show _ = _; omega
    have HF := Pl.hid (Pl.fil_spl (Pl.L s) s.size n.toNat (by rw [Pl.L_length]; omega) (by rw [Pl.L_length]; omega))
    rw [HM.out]
    go_enter Try.func34, Try.ntmps34
    go_wp2_with (first | (at_make; refine Mm.wp_makeN _ rfl _ _ rfl (s.size : Int) (by rfl) (by rfl) (by omega) (by omega) ?_; rw [Int.toNat_natCast]; intro w1 hb hz hbel; have HB := Pl.hid hb; have HZ := Pl.hid hz; have HBel := Pl.hid hbel; clear hb hz hbel) | (refine Mm.wp_copystr _ rfl _ _ (by rfl) w.heap.size 0 s.size s.size _ s HB.out (by rfl) (by rfl) (by omega) (by simp) ?_; intro w2 hb2 hz2 hbel2; have HB2 := Pl.hid hb2; have HZ2 := Pl.hid (hz2.trans HZ.out); have HBel2 := Pl.hid (HBel.out.trans (hbel2 _ (Nat.le_refl _))); clear hb2 hz2 hbel2))
    go_ret
    exact ⟨rfl, HF.out ▸ HB2.out, HZ2.out, HBel2.out⟩

theorem overlay_walk (s : ByteArray) (p : Int) (v : ByteArray) (w : World) (hp : Pl.In64 p) (hs : s.size ≤ 140737488351232) (hv : v.size ≤ 140737488351232) :
    Calls Try.prog 19 #[.string s, .int .i64 p, .string v] w fun e w' => e = .returned (.tuple #[.string (Pl.ovS s p v), .int .i64 (Pl.ovC s p v)]) ∧ Below w.heap.size w w' := by
  obtain ⟨p1, p2⟩ := hp
  rcases Int.lt_or_le p 0 with c | c
  · have H0 := Pl.hid (Pl.ov_neg (s := s) (v := v) c)
    go_enter Try.func19, Try.ntmps19
    go_wp2_with fail
    go_ret2
    exact ⟨Pl.ret2si H0.out.1.symm H0.out.2.symm, Below.refl _ _⟩
  · by_cases cv : v.size = 0
    · have H0 := Pl.hid (Pl.ov_nil (s := s) c cv)
      have he := Pl.empty_yes cv
      clear cv
      go_enter Try.func19, Try.ntmps19
      go_wp2_with fail
      go_ret2
      exact ⟨Pl.ret2si H0.out.1.symm H0.out.2.symm, Below.refl _ _⟩
    · have he := Pl.empty_no cv
      have cv' : 1 ≤ v.size := by omega
      by_cases cl : 1048576 < s.size ∨ 1048576 < p ∨ 1048576 < p + v.size
      · have H0 := Pl.hid (Pl.ov_long c cv cl)
        clear cv
        rcases Nat.lt_or_ge 1048576 s.size with d | d
        · clear cl
          go_enter Try.func19, Try.ntmps19
          go_wp2_with fail
          go_ret2
          exact ⟨Pl.ret2si H0.out.1.symm H0.out.2.symm, Below.refl _ _⟩
        · rcases Int.lt_or_le 1048576 p with d2 | d2
          · clear cl
            go_enter Try.func19, Try.ntmps19
            go_wp2_with fail
            go_ret2
            exact ⟨Pl.ret2si H0.out.1.symm H0.out.2.symm, Below.refl _ _⟩
          · have d3 : 1048576 < p + (v.size : Int) := by omega
            clear cl
            go_enter Try.func19, Try.ntmps19
            go_wp2_with fail
            go_ret2
            exact ⟨Pl.ret2si H0.out.1.symm H0.out.2.symm, Below.refl _ _⟩
      · have H0 := Pl.hid (Pl.ov_ok c cv cl)
        have d1 : (s.size : Int) ≤ 1048576 := by omega
        have d2 : p ≤ 1048576 := by omega
        have d3 : p + (v.size : Int) ≤ 1048576 := by omega
        clear cl cv
        obtain ⟨m, hm⟩ : ∃ m, m = max s.size (p + (v.size : Int)).toNat := ⟨_, rfl⟩
        have hm1 : (p + (v.size : Int)).toNat ≤ m := by omega
        have hm2 : m ≤ 1048576 := by omega
        have HM := Pl.hid hm
        have HL : Hid ((Pl.filL (Pl.L s) (p + (v.size : Int)).toNat).length = m) := by show _ = _; rw [Pl.filL_length, Pl.L_length, hm]
        have HO := Pl.hid (Pl.ov_spl (Pl.L s) (Pl.L v) p.toNat)
        have HP : Hid ((p + (v.size : Int)).toNat = p.toNat + (Pl.L v).length) := by show _ = _; rw [Pl.L_length]; omega
        clear hm
        go_enter Try.func19, Try.ntmps19
        go_wp2_with fail
        refine (filled_walk _ _ _ (by omega) (by omega) hs).mono ?_
        rw [← HM.out]
        rintro e w1 ⟨rfl, hb, hz, hbel⟩
        have HB := Pl.hid hb
        have HBel := Pl.hid hbel
        clear hb hbel
        go_wp2_with (first | (refine Mm.wp_copystr _ rfl _ _ (by rfl) w.heap.size p.toNat _ _ _ v HB.out (by rfl) (by rfl) (by omega) (by rw [HL.out]; omega) ?_; intro w2 hb2 hz2 hbel2; have HB2 := Pl.hid hb2; have HBel2 := Pl.hid (HBel.out.trans (hbel2 _ (Nat.le_refl _))); have HL2 := Pl.hid (Pl.spl_length (Pl.filL (Pl.L s) (p + (v.size : Int)).toNat) (Pl.L v) p.toNat (by rw [HL.out, Pl.L_length]; omega)); clear hb2 hz2 hbel2) | (refine Mm.wp_strN _ rfl _ (by rfl) w.heap.size m m _ HB2.out (by rfl) (by rw [HL2.out, HL.out]) ?_))
        go_ret2
        exact ⟨Pl.ret2si (by rw [H0.out.1, HP.out, HO.out]) H0.out.2.symm, HBel2.out⟩

set_option maxHeartbeats 1600000 in
theorem refoverlay_walk (s : ByteArray) (p : Int) (v : ByteArray) (w : World) (hp : Pl.In64 p) (hs : s.size ≤ 140737488351232) (hv : v.size ≤ 140737488351232) :
    Calls Try.prog 18 #[.string s, .int .i64 p, .string v] w fun e w' => e = .returned (.tuple #[.string (Pl.ovS s p v), .int .i64 (Pl.ovC s p v)]) ∧ Below w.heap.size w w' := by
  obtain ⟨p1, p2⟩ := hp
  rcases Int.lt_or_le p 0 with c | c
  · have H0 := Pl.hid (Pl.ov_neg (s := s) (v := v) c)
    go_enter Try.func18, Try.ntmps18
    go_wp2_with fail
    go_ret2
    exact ⟨Pl.ret2si H0.out.1.symm H0.out.2.symm, Below.refl _ _⟩
  · by_cases cv : v.size = 0
    · have H0 := Pl.hid (Pl.ov_nil (s := s) c cv)
      have he : ((v.size : Int) == 0) = true := beq_iff_eq.2 (by omega)
      clear cv
      go_enter Try.func18, Try.ntmps18
      go_wp2_with fail
      go_ret2
      exact ⟨Pl.ret2si H0.out.1.symm H0.out.2.symm, Below.refl _ _⟩
    · have he : ((v.size : Int) == 0) = false := beq_eq_false_iff_ne.2 (by omega)
      have cv' : 1 ≤ v.size := by omega
      by_cases cl : 1048576 < s.size ∨ 1048576 < p ∨ 1048576 < p + v.size
      · have H0 := Pl.hid (Pl.ov_long c cv cl)
        clear cv
        rcases Nat.lt_or_ge 1048576 s.size with d | d
        · clear cl
          go_enter Try.func18, Try.ntmps18
          go_wp2_with fail
          go_ret2
          exact ⟨Pl.ret2si H0.out.1.symm H0.out.2.symm, Below.refl _ _⟩
        · rcases Int.lt_or_le 1048576 p with d2 | d2
          · clear cl
            go_enter Try.func18, Try.ntmps18
            go_wp2_with fail
            go_ret2
            exact ⟨Pl.ret2si H0.out.1.symm H0.out.2.symm, Below.refl _ _⟩
          · have d3 : 1048576 < p + (v.size : Int) := by omega
            clear cl
            go_enter Try.func18, Try.ntmps18
            go_wp2_with fail
            go_ret2
            exact ⟨Pl.ret2si H0.out.1.symm H0.out.2.symm, Below.refl _ _⟩
      · have H0 := Pl.hid (Pl.ov_ok c cv cl)
        have d1 : (s.size : Int) ≤ 1048576 := by omega
        have d2 : p ≤ 1048576 := by omega
        have d3 : p + (v.size : Int) ≤ 1048576 := by omega
        clear cl cv
        obtain ⟨m, hm⟩ : ∃ m, m = max s.size (p + (v.size : Int)).toNat := ⟨_, rfl⟩
        have hm1 : p + (v.size : Int) ≤ m := by omega
        have hm2 : m ≤ 1048576 := by omega
        have HM : Hid ((Pl.ovL (Pl.L s) (Pl.L v) p.toNat).length = m) := by show _ = _; rw [Pl.ovL_length, Pl.L_length, Pl.L_length]; omega
        by_cases e : p + (v.size : Int) < s.size
        · have q1 : m ≤ s.size := by omega
          have q2 : s.size ≤ m := by omega
          clear hm
          go_enter Try.func18, Try.ntmps18
          go_wp2_with (at_make; refine Mm.wp_make0 _ rfl _ _ rfl _ (by rfl) (by rfl) (by omega) (by omega) ?_; intro v0 w1 hown0 hb0; have HO := Pl.hid hown0; have HBel := Pl.hid hb0; clear hown0 hb0)
          go_loopw [10, 47] (fun o i wr => ∃ k : Nat, k ≤ m ∧ i = .int .i64 k ∧ Mm.OwnB wr w.heap.size o ((Pl.ovL (Pl.L s) (Pl.L v) p.toNat).take k) ∧ Below w.heap.size w wr) (fun _ i _ => m - (intOf i).toNat)
          case atStart => exact ⟨0, Nat.zero_le _, rfl, HO.out, HBel.out⟩
          case round =>
            obtain ⟨k, hk, rfl, hown, hbel⟩ := hrel
            have HO2 := Pl.hid hown
            have HBel2 := Pl.hid hbel
            by_cases hlt : k < m
            · clear hown hbel
              have HT := Pl.hid (Pl.take_snoc (Pl.ovL (Pl.L s) (Pl.L v) p.toNat) k (by rw [HM.out]; exact hlt))
              have HG := Pl.hid (Pl.ovL_getD (Pl.L s) (Pl.L v) p.toNat k (by rw [← Pl.ovL_length, HM.out]; exact hlt))
              have HL := Pl.hid (show ((Pl.ovL (Pl.L s) (Pl.L v) p.toNat).take k).length < 140737488355328 by rw [List.length_take]; omega)
              obtain ⟨x0, x1⟩ := Pl.at_bd (Pl.L s) k
              by_cases c0 : p ≤ (k : Int) ∧ (k : Int) < p + (v.size : Int)
              · obtain ⟨c1, c2⟩ := c0
                have hkv : ((k : Int) - p).toNat < v.size := by omega
                have HE := Pl.hid (show (Pl.ovL (Pl.L s) (Pl.L v) p.toNat).take (k + 1) = (Pl.ovL (Pl.L s) (Pl.L v) p.toNat).take k ++ [v[((k : Int) - p).toNat]'hkv] by
                  rw [HT.out, HG.out, if_pos (by rw [Pl.L_length]; omega), Pl.L_get v _ hkv, show ((k : Int) - p).toNat = k - p.toNat by omega])
                go_wp2_with (first | (go_at_call 33; refine (at_walk _ _ _ (by omega) (by omega)).mono ?_; rw [Int.toNat_natCast]; rintro e w' ⟨rfl, rfl⟩) | (at_builtin; refine Mm.wp_app1 _ rfl _ _ (by rfl) w.heap.size _ _ (v[((k : Int) - p).toNat]'hkv) (by rfl) (by rfl) HO2.out HL.out HBel2.out.size ?_; intro v3 w3 hown3 hbel3; have HO3 := Pl.hid hown3; have HBel3 := Pl.hid (HBel2.out.trans hbel3); clear hown3 hbel3))
                go_roundw
                case rel => exact ⟨k + 1, by omega, by go_num, by rw [HE.out]; exact HO3.out, HBel3.out⟩
                case measure => simp [intOf]; omega
              · have HE := Pl.hid (show (Pl.ovL (Pl.L s) (Pl.L v) p.toNat).take (k + 1) = (Pl.ovL (Pl.L s) (Pl.L v) p.toNat).take k ++ [Pl.ofI (Pl.at_ (Pl.L s) k)] by
                  rw [HT.out, HG.out, if_neg (by rw [Pl.L_length]; omega), Pl.ofI_at])
                rcases Int.lt_or_le (k : Int) p with c1 | c1
                · clear c0
                  go_wp2_with (first | (go_at_call 33; refine (at_walk _ _ _ (by omega) (by omega)).mono ?_; rw [Int.toNat_natCast]; rintro e w' ⟨rfl, rfl⟩) | (at_builtin; refine Mm.wp_appI _ rfl _ _ (by rfl) w.heap.size _ _ (Pl.at_ (Pl.L s) k) (by rfl) (by rfl) HO2.out x0 x1 HL.out HBel2.out.size ?_; intro v3 w3 hown3 hbel3; have HO3 := Pl.hid hown3; have HBel3 := Pl.hid (HBel2.out.trans hbel3); clear hown3 hbel3))
                  go_roundw
                  case rel => exact ⟨k + 1, by omega, by go_num, by rw [HE.out]; exact HO3.out, HBel3.out⟩
                  case measure => simp [intOf]; omega
                · have c2 : p + (v.size : Int) ≤ k := by omega
                  clear c0
                  go_wp2_with (first | (go_at_call 33; refine (at_walk _ _ _ (by omega) (by omega)).mono ?_; rw [Int.toNat_natCast]; rintro e w' ⟨rfl, rfl⟩) | (at_builtin; refine Mm.wp_appI _ rfl _ _ (by rfl) w.heap.size _ _ (Pl.at_ (Pl.L s) k) (by rfl) (by rfl) HO2.out x0 x1 HL.out HBel2.out.size ?_; intro v3 w3 hown3 hbel3; have HO3 := Pl.hid hown3; have HBel3 := Pl.hid (HBel2.out.trans hbel3); clear hown3 hbel3))
                  go_roundw
                  case rel => exact ⟨k + 1, by omega, by go_num, by rw [HE.out]; exact HO3.out, HBel3.out⟩
                  case measure => simp [intOf]; omega
            · have HK := Pl.hid (show (Pl.ovL (Pl.L s) (Pl.L v) p.toNat).take k = Pl.ovL (Pl.L s) (Pl.L v) p.toNat from List.take_of_length_le (by rw [HM.out]; omega))
              have hcv := Mm.run_str _ _ _ _ hown
              clear hown hbel
              go_wp2
              go_ret2
              exact ⟨Pl.ret2si (by rw [H0.out.1, HK.out]) H0.out.2.symm, HBel2.out⟩
        · have q1 : (m : Int) ≤ p + (v.size : Int) := by omega
          clear hm
          go_enter Try.func18, Try.ntmps18
          go_wp2_with (at_make; refine Mm.wp_make0 _ rfl _ _ rfl _ (by rfl) (by rfl) (by omega) (by omega) ?_; intro v0 w1 hown0 hb0; have HO := Pl.hid hown0; have HBel := Pl.hid hb0; clear hown0 hb0)
          go_loopw [10, 47] (fun o i wr => ∃ k : Nat, k ≤ m ∧ i = .int .i64 k ∧ Mm.OwnB wr w.heap.size o ((Pl.ovL (Pl.L s) (Pl.L v) p.toNat).take k) ∧ Below w.heap.size w wr) (fun _ i _ => m - (intOf i).toNat)
          case atStart => exact ⟨0, Nat.zero_le _, rfl, HO.out, HBel.out⟩
          case round =>
            obtain ⟨k, hk, rfl, hown, hbel⟩ := hrel
            have HO2 := Pl.hid hown
            have HBel2 := Pl.hid hbel
            by_cases hlt : k < m
            · clear hown hbel
              have HT := Pl.hid (Pl.take_snoc (Pl.ovL (Pl.L s) (Pl.L v) p.toNat) k (by rw [HM.out]; exact hlt))
              have HG := Pl.hid (Pl.ovL_getD (Pl.L s) (Pl.L v) p.toNat k (by rw [← Pl.ovL_length, HM.out]; exact hlt))
              have HL := Pl.hid (show ((Pl.ovL (Pl.L s) (Pl.L v) p.toNat).take k).length < 140737488355328 by rw [List.length_take]; omega)
              obtain ⟨x0, x1⟩ := Pl.at_bd (Pl.L s) k
              by_cases c0 : p ≤ (k : Int) ∧ (k : Int) < p + (v.size : Int)
              · obtain ⟨c1, c2⟩ := c0
                have hkv : ((k : Int) - p).toNat < v.size := by omega
                have HE := Pl.hid (show (Pl.ovL (Pl.L s) (Pl.L v) p.toNat).take (k + 1) = (Pl.ovL (Pl.L s) (Pl.L v) p.toNat).take k ++ [v[((k : Int) - p).toNat]'hkv] by
                  rw [HT.out, HG.out, if_pos (by rw [Pl.L_length]; omega), Pl.L_get v _ hkv, show ((k : Int) - p).toNat = k - p.toNat by omega])
                go_wp2_with (first | (go_at_call 33; refine (at_walk _ _ _ (by omega) (by omega)).mono ?_; rw [Int.toNat_natCast]; rintro e w' ⟨rfl, rfl⟩) | (at_builtin; refine Mm.wp_app1 _ rfl _ _ (by rfl) w.heap.size _ _ (v[((k : Int) - p).toNat]'hkv) (by rfl) (by rfl) HO2.out HL.out HBel2.out.size ?_; intro v3 w3 hown3 hbel3; have HO3 := Pl.hid hown3; have HBel3 := Pl.hid (HBel2.out.trans hbel3); clear hown3 hbel3))
                go_roundw
                case rel => exact ⟨k + 1, by omega, by go_num, by rw [HE.out]; exact HO3.out, HBel3.out⟩
                case measure => simp [intOf]; omega
              · have HE := Pl.hid (show (Pl.ovL (Pl.L s) (Pl.L v) p.toNat).take (k + 1) = (Pl.ovL (Pl.L s) (Pl.L v) p.toNat).take k ++ [Pl.ofI (Pl.at_ (Pl.L s) k)] by
                  rw [HT.out, HG.out, if_neg (by rw [Pl.L_length]; omega), Pl.ofI_at])
                rcases Int.lt_or_le (k : Int) p with c1 | c1
                · clear c0
                  go_wp2_with (first | (go_at_call 33; refine (at_walk _ _ _ (by omega) (by omega)).mono ?_; rw [Int.toNat_natCast]; rintro e w' ⟨rfl, rfl⟩) | (at_builtin; refine Mm.wp_appI _ rfl _ _ (by rfl) w.heap.size _ _ (Pl.at_ (Pl.L s) k) (by rfl) (by rfl) HO2.out x0 x1 HL.out HBel2.out.size ?_; intro v3 w3 hown3 hbel3; have HO3 := Pl.hid hown3; have HBel3 := Pl.hid (HBel2.out.trans hbel3); clear hown3 hbel3))
                  go_roundw
                  case rel => exact ⟨k + 1, by omega, by go_num, by rw [HE.out]; exact HO3.out, HBel3.out⟩
                  case measure => simp [intOf]; omega
                · omega
            · have HK := Pl.hid (show (Pl.ovL (Pl.L s) (Pl.L v) p.toNat).take k = Pl.ovL (Pl.L s) (Pl.L v) p.toNat from List.take_of_length_le (by rw [HM.out]; omega))
              have hcv := Mm.run_str _ _ _ _ hown
              clear hown hbel
              go_wp2
              go_ret2
              exact ⟨Pl.ret2si (by rw [H0.out.1, HK.out]) H0.out.2.symm, HBel2.out⟩
end Go.Proofs.Ytenacajpgpkdnaa
