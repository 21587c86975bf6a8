/- pantrylaw08.PatchCounts: at every text and every number the law returns true. No condition. -/
import Derived.Test.YtfelkiflknjkdaaPatI
import Derived.Test.YtfelkiflknjkdaaPlainS
import Derived.Test.YtfelkiflknjkdaaFrame
namespace Go.Proofs.Ytfelkiflknjkdaa.patchCounts
open Go.ChangeShapes Go.WideShapes Go.ChangeAt Go.RowKit
open Go.ChangeMaps (open_string shut_string)

theorem bit_known {s : ByteArray} {i x c : Int} (w : World) (h : Pl.bitV (Pl.L s) i = x) (hc : Pl.bitC i = c) :
    Calls Try.prog 27 #[.string s, .int .i64 i] w fun e w' => e = .returned (.tuple #[.int .i64 x, .int .i64 c]) ∧ Below w.heap.size w w' := by
  rw [← h, ← hc]; exact bit_walk s i w
theorem slice_known {s r : ByteArray} {a b : Int} (w : World) (ha : Pl.In64 a) (hb : Pl.In64 b) (hs : s.size ≤ 9223372036854775807) (h : Pl.B (Pl.slcL (Pl.L s) a b) = r) :
    Calls Try.prog 24 #[.string s, .int .i64 a, .int .i64 b] w fun e w' => e = .returned (.string r) ∧ w = w' := by
  rw [← h]; exact slice_walk s a b w ha hb hs
theorem join_known {s v r : ByteArray} {c : Int} (w : World) (hs : s.size ≤ 140737488351232) (hv : v.size ≤ 140737488351232) (h : Pl.joinS s v = r) (hc : Pl.joinC s v = c) :
    Calls Try.prog 21 #[.string s, .string v] w fun e w' => e = .returned (.tuple #[.string r, .int .i64 c]) ∧ w = w' := by
  rw [← h, ← hc]; exact join_walk s v w hs hv

set_option maxRecDepth 20000 in
theorem walk_posA (s : ByteArray) (p : Int) (k : Nat) (hs : s.size ≤ 140737488351232) (hp1 : -9223372036854775808 ≤ p) (hp2 : p ≤ 9223372036854775807) (w : World)
    (hk : k ≤ s.size) (hk0 : k = 0) (hkn : k = s.size) (hmod : p.tmod ((s.size : Int) + 1) = 0) :
    Calls Try.prog 11 #[.string s, .int .i64 p] w fun e w' => e = .returned (.bool true) ∧ Below w.heap.size w w' := by
  obtain ⟨a, hae⟩ : ∃ a, a = Pl.B ((Pl.L s).take k) := ⟨_, rfl⟩
  obtain ⟨b, hbe⟩ : ∃ b, b = Pl.B ((Pl.L s).drop k) := ⟨_, rfl⟩
  have HJ := Pl.hid (Pl.join_cut s k hk)
  have hxa := Pl.ext_head s k
  have hxb := Pl.ext_rest s k
  have HZ := Pl.hid (Pl.cut_size s k hk)
  have HN := Pl.hid (Pl.ones_cut (Pl.L s) k)
  have hLa : Pl.L a = (Pl.L s).take k := by rw [hae, Pl.L_B]
  have hLb : Pl.L b = (Pl.L s).drop k := by rw [hbe, Pl.L_B]
  rw [← hae] at HJ hxa HZ
  rw [← hbe] at HJ hxb HZ
  rw [← hLa, ← hLb] at HN
  have za := HZ.out.1
  have zb := HZ.out.2
  have hza : a.size ≤ 140737488351232 := by omega
  have hzb : b.size ≤ 140737488351232 := by omega
  obtain ⟨x, hx⟩ : ∃ x, x = Pl.onesL (Pl.L a) 0 (-1) := ⟨_, rfl⟩
  obtain ⟨y, hy⟩ : ∃ y, y = Pl.onesL (Pl.L b) 0 (-1) := ⟨_, rfl⟩
  have hxb0 := Pl.bitsT_bd (Pl.L a) (8 * (Pl.L a).length)
  have hyb0 := Pl.bitsT_bd (Pl.L b) (8 * (Pl.L b).length)
  rw [← Pl.onesL_all, ← hx, Pl.L_length] at hxb0
  rw [← Pl.onesL_all, ← hy, Pl.L_length] at hyb0
  rw [← hx, ← hy] at HN
  have HX := Pl.hid hx.symm
  have HY := Pl.hid hy.symm
  have x0 : 0 ≤ x := hxb0.1
  have x1 : x ≤ 1125899906842624 := by omega
  have y0 : 0 ≤ y := hyb0.1
  have y1 : y ≤ 1125899906842624 := by omega
  have ha0 : a = (⟨#[]⟩ : ByteArray) := by rw [hae, hk0]; rfl
  have hxz : x = 0 := by omega
  have hb0 : b = (⟨#[]⟩ : ByteArray) := by rw [hbe, hkn, ← Pl.L_length, List.drop_length]; rfl
  have hyz : y = 0 := by omega
  have he : (0 == (s.size : Int)) = true := by exact beq_iff_eq.2 (by omega)
  obtain ⟨M, hM⟩ : ∃ M : Nat, min (8 * (s.size : Int)) 65536 = (M : Int) := ⟨(min (8 * (s.size : Int)) 65536).toNat, by omega⟩
  have hM1 : M ≤ 65536 := by omega
  have HM := Pl.hid hM
  clear hx hy hae hbe hLa hLb hxb0 hyb0 za zb HZ
  subst ha0 hxz
  subst hb0 hyz
  subst hk0
  have HK := Pl.hid hkn
  clear hkn
  go_enter Try.func11, Try.ntmps11
  go_wp2_with fail
  refine (wakes_walk _).mono ?_
  rintro e w1 ⟨rfl, hb1⟩
  have HB1 := Pl.hid hb1
  clear hb1
  go_wp2_with fail
  refine (slice_walk _ _ _ _ ⟨by omega, by omega⟩ ⟨by omega, by omega⟩ (by omega)).mono ?_
  rintro e w' ⟨rfl, rfl⟩
  go_wp2_with fail
  refine (ones_known (n := 0) _ ⟨by omega, by omega⟩ ⟨by omega, by omega⟩ (by first | omega | decide) (by have := HN.out; omega)).mono ?_
  rintro e w2 ⟨rfl, hb2⟩
  have HB2 := Pl.hid (HB1.out.trans (hb2.mono HB1.out.size))
  clear hb2 HB1
  go_wp2_with fail
  refine (ones_known (n := 0) _ ⟨by omega, by omega⟩ ⟨by omega, by omega⟩ (by first | omega | decide) HX.out).mono ?_
  rintro e w3 ⟨rfl, hb3⟩
  have HB3 := Pl.hid (HB2.out.trans (hb3.mono HB2.out.size))
  clear hb3 HB2
  go_wp2_with fail
  refine (ones_known (n := 0) _ ⟨by omega, by omega⟩ ⟨by omega, by omega⟩ (by first | omega | decide) HY.out).mono ?_
  rintro e w4 ⟨rfl, hb4⟩
  have HB4 := Pl.hid (HB3.out.trans (hb4.mono HB3.out.size))
  clear hb4 HB3
  go_wp2_with fail
  clear hM
  go_loopw [9, 69] (fun t i wr => ∃ q : Nat, q ≤ M ∧ i = .int .i64 q ∧ t = .int .i64 (Pl.bitsT (Pl.L s) q) ∧ Below w.heap.size w wr) (fun _ i _ => M - (intOf i).toNat)
  case atStart => exact ⟨0, Nat.zero_le _, rfl, rfl, HB4.out⟩
  case round =>
    obtain ⟨q, hq, rfl, rfl, hbel⟩ := hrel
    have HBel := Pl.hid hbel
    clear hbel
    obtain ⟨hb0, hb1⟩ := Pl.bitsT_bd (Pl.L s) q
    by_cases hlt : q < M
    · have HQ := Pl.hid (Pl.bitV_in (l := Pl.L s) (i := (q : Int)) ⟨by omega, by omega⟩)
      have HQC := Pl.hid (Pl.bitC_in (i := (q : Int)) ⟨by omega, by omega⟩)
      have hstep : Pl.bitsT (Pl.L s) (q + 1) = Pl.bitsT (Pl.L s) q + Pl.bitL (Pl.L s) q := rfl
      obtain ⟨g, hg⟩ : ∃ g, g = Pl.bitsT (Pl.L s) q := ⟨_, rfl⟩
      rw [← hg] at hb0 hb1 hstep ⊢
      have g1 : g ≤ 65536 := by omega
      clear hg hb1
      rw [Int.toNat_natCast] at HQ
      rcases Pl.bitL_01 (Pl.L s) q with hy | hy
      all_goals
        rw [hy] at HQ hstep
        have HG := Pl.hid hstep
        clear hy hstep
        go_wp2_with fail
        refine (bit_known (c := 0) _ HQ.out HQC.out).mono ?_
        rintro e w5 ⟨rfl, hb5⟩
        have HB5 := Pl.hid (HBel.out.trans (hb5.mono HBel.out.size))
        clear hb5 HBel
        go_wp2_with fail
        go_roundw
        case rel => exact ⟨q + 1, by omega, by go_num, by simp only [HG.out, Int.add_zero], HB5.out⟩
        case measure => simp [intOf]; omega
    · have HQM : Hid (q = M) := by show _ = _; omega
      rcases Nat.lt_or_ge 1048576 s.size with d | d
      · have hfar : 65536 < 8 * (s.size : Int) := by omega
        have HJ1 := HJ.out.1
        have HJ2 := HJ.out.2
        rw [if_pos d] at HJ1 HJ2
        rw [Pl.B_nil] at HJ1
        have HK1 := Pl.hid HJ1
        have HK2 := Pl.hid HJ2
        clear HJ1 HJ2
        go_wp2_with fail
        refine (join_known _ (by decide) (by decide) HK1.out HK2.out).mono ?_
        rintro e w' ⟨rfl, rfl⟩
        go_wp2_with fail
        go_ret
        exact ⟨rfl, HBel.out⟩
      · have HJ1 := HJ.out.1
        have HJ2 := HJ.out.2
        rw [if_neg (by omega)] at HJ1 HJ2
        have HK1 := Pl.hid HJ1
        have HK2 := Pl.hid HJ2
        clear HJ1 HJ2
        rcases Int.lt_or_le 65536 (8 * (s.size : Int)) with d2 | d2
        · skip
          go_wp2_with fail
          refine (join_known _ (by decide) (by decide) HK1.out HK2.out).mono ?_
          rintro e w' ⟨rfl, rfl⟩
          go_wp2_with fail
          go_ret
          exact ⟨rfl, HBel.out⟩
        · have hfin : Pl.bitsT (Pl.L s) q = 0 := by
            have h1 := Pl.ones_bits s q (by have := HM.out; have := HQM.out; omega)
            have h2 := HN.out
            omega
          go_wp2_with fail
          refine (join_known _ (by decide) (by decide) HK1.out HK2.out).mono ?_
          rintro e w' ⟨rfl, rfl⟩
          go_wp2_with fail
          go_ret
          exact ⟨rfl, HBel.out⟩

set_option maxRecDepth 20000 in
theorem walk_posB (s : ByteArray) (p : Int) (k : Nat) (hs : s.size ≤ 140737488351232) (hp1 : -9223372036854775808 ≤ p) (hp2 : p ≤ 9223372036854775807) (w : World)
    (hk : k ≤ s.size) (hk0 : k = 0) (hkn : k ≠ s.size) (hmod : p.tmod ((s.size : Int) + 1) = 0) :
    Calls Try.prog 11 #[.string s, .int .i64 p] w fun e w' => e = .returned (.bool true) ∧ Below w.heap.size w w' := by
  obtain ⟨a, hae⟩ : ∃ a, a = Pl.B ((Pl.L s).take k) := ⟨_, rfl⟩
  obtain ⟨b, hbe⟩ : ∃ b, b = Pl.B ((Pl.L s).drop k) := ⟨_, rfl⟩
  have HJ := Pl.hid (Pl.join_cut s k hk)
  have hxa := Pl.ext_head s k
  have hxb := Pl.ext_rest s k
  have HZ := Pl.hid (Pl.cut_size s k hk)
  have HN := Pl.hid (Pl.ones_cut (Pl.L s) k)
  have hLa : Pl.L a = (Pl.L s).take k := by rw [hae, Pl.L_B]
  have hLb : Pl.L b = (Pl.L s).drop k := by rw [hbe, Pl.L_B]
  rw [← hae] at HJ hxa HZ
  rw [← hbe] at HJ hxb HZ
  rw [← hLa, ← hLb] at HN
  have za := HZ.out.1
  have zb := HZ.out.2
  have hza : a.size ≤ 140737488351232 := by omega
  have hzb : b.size ≤ 140737488351232 := by omega
  obtain ⟨x, hx⟩ : ∃ x, x = Pl.onesL (Pl.L a) 0 (-1) := ⟨_, rfl⟩
  obtain ⟨y, hy⟩ : ∃ y, y = Pl.onesL (Pl.L b) 0 (-1) := ⟨_, rfl⟩
  have hxb0 := Pl.bitsT_bd (Pl.L a) (8 * (Pl.L a).length)
  have hyb0 := Pl.bitsT_bd (Pl.L b) (8 * (Pl.L b).length)
  rw [← Pl.onesL_all, ← hx, Pl.L_length] at hxb0
  rw [← Pl.onesL_all, ← hy, Pl.L_length] at hyb0
  rw [← hx, ← hy] at HN
  have HX := Pl.hid hx.symm
  have HY := Pl.hid hy.symm
  have x0 : 0 ≤ x := hxb0.1
  have x1 : x ≤ 1125899906842624 := by omega
  have y0 : 0 ≤ y := hyb0.1
  have y1 : y ≤ 1125899906842624 := by omega
  have HBs : Hid (Pl.B (Pl.slcL (Pl.L s) 0 (-1)) = b) := by show _ = _; have := Pl.slc_rest (Pl.L s) k (by rw [Pl.L_length]; omega); rw [hk0] at this hbe; rw [show (0 : Int) = ((0 : Nat) : Int) from rfl, this, hbe]
  have ha0 : a = (⟨#[]⟩ : ByteArray) := by rw [hae, hk0]; rfl
  have hxz : x = 0 := by omega
  have he : (0 == (s.size : Int)) = false := by exact beq_eq_false_iff_ne.2 (by omega)
  obtain ⟨M, hM⟩ : ∃ M : Nat, min (8 * (s.size : Int)) 65536 = (M : Int) := ⟨(min (8 * (s.size : Int)) 65536).toNat, by omega⟩
  have hM1 : M ≤ 65536 := by omega
  have HM := Pl.hid hM
  clear hx hy hae hbe hLa hLb hxb0 hyb0 za zb HZ
  subst ha0 hxz
  subst hk0
  have hk2 : 0 < s.size := by omega
  clear hkn
  go_enter Try.func11, Try.ntmps11
  go_wp2_with fail
  refine (wakes_walk _).mono ?_
  rintro e w1 ⟨rfl, hb1⟩
  have HB1 := Pl.hid hb1
  clear hb1
  go_wp2_with fail
  refine (slice_known (r := b) _ ⟨by omega, by omega⟩ ⟨by omega, by omega⟩ (by omega) HBs.out).mono ?_
  rintro e w' ⟨rfl, rfl⟩
  go_wp2_with fail
  refine (ones_known (n := y) _ ⟨by omega, by omega⟩ ⟨by omega, by omega⟩ (by first | omega | decide) (by have := HN.out; omega)).mono ?_
  rintro e w2 ⟨rfl, hb2⟩
  have HB2 := Pl.hid (HB1.out.trans (hb2.mono HB1.out.size))
  clear hb2 HB1
  go_wp2_with fail
  refine (ones_known (n := 0) _ ⟨by omega, by omega⟩ ⟨by omega, by omega⟩ (by first | omega | decide) HX.out).mono ?_
  rintro e w3 ⟨rfl, hb3⟩
  have HB3 := Pl.hid (HB2.out.trans (hb3.mono HB2.out.size))
  clear hb3 HB2
  go_wp2_with fail
  refine (ones_known (n := y) _ ⟨by omega, by omega⟩ ⟨by omega, by omega⟩ (by first | omega | decide) HY.out).mono ?_
  rintro e w4 ⟨rfl, hb4⟩
  have HB4 := Pl.hid (HB3.out.trans (hb4.mono HB3.out.size))
  clear hb4 HB3
  go_wp2_with fail
  clear hM
  go_loopw [9, 69] (fun t i wr => ∃ q : Nat, q ≤ M ∧ i = .int .i64 q ∧ t = .int .i64 (Pl.bitsT (Pl.L s) q) ∧ Below w.heap.size w wr) (fun _ i _ => M - (intOf i).toNat)
  case atStart => exact ⟨0, Nat.zero_le _, rfl, rfl, HB4.out⟩
  case round =>
    obtain ⟨q, hq, rfl, rfl, hbel⟩ := hrel
    have HBel := Pl.hid hbel
    clear hbel
    obtain ⟨hb0, hb1⟩ := Pl.bitsT_bd (Pl.L s) q
    by_cases hlt : q < M
    · have HQ := Pl.hid (Pl.bitV_in (l := Pl.L s) (i := (q : Int)) ⟨by omega, by omega⟩)
      have HQC := Pl.hid (Pl.bitC_in (i := (q : Int)) ⟨by omega, by omega⟩)
      have hstep : Pl.bitsT (Pl.L s) (q + 1) = Pl.bitsT (Pl.L s) q + Pl.bitL (Pl.L s) q := rfl
      obtain ⟨g, hg⟩ : ∃ g, g = Pl.bitsT (Pl.L s) q := ⟨_, rfl⟩
      rw [← hg] at hb0 hb1 hstep ⊢
      have g1 : g ≤ 65536 := by omega
      clear hg hb1
      rw [Int.toNat_natCast] at HQ
      rcases Pl.bitL_01 (Pl.L s) q with hy | hy
      all_goals
        rw [hy] at HQ hstep
        have HG := Pl.hid hstep
        clear hy hstep
        go_wp2_with fail
        refine (bit_known (c := 0) _ HQ.out HQC.out).mono ?_
        rintro e w5 ⟨rfl, hb5⟩
        have HB5 := Pl.hid (HBel.out.trans (hb5.mono HBel.out.size))
        clear hb5 HBel
        go_wp2_with fail
        go_roundw
        case rel => exact ⟨q + 1, by omega, by go_num, by simp only [HG.out, Int.add_zero], HB5.out⟩
        case measure => simp [intOf]; omega
    · have HQM : Hid (q = M) := by show _ = _; omega
      rcases Nat.lt_or_ge 1048576 s.size with d | d
      · have hfar : 65536 < 8 * (s.size : Int) := by omega
        have HJ1 := HJ.out.1
        have HJ2 := HJ.out.2
        rw [if_pos d] at HJ1 HJ2
        rw [Pl.B_nil] at HJ1
        have HK1 := Pl.hid HJ1
        have HK2 := Pl.hid HJ2
        clear HJ1 HJ2
        go_wp2_with fail
        refine (join_known _ (by decide) hzb HK1.out HK2.out).mono ?_
        rintro e w' ⟨rfl, rfl⟩
        go_wp2_with fail
        go_ret
        exact ⟨rfl, HBel.out⟩
      · have HJ1 := HJ.out.1
        have HJ2 := HJ.out.2
        rw [if_neg (by omega)] at HJ1 HJ2
        have HK1 := Pl.hid HJ1
        have HK2 := Pl.hid HJ2
        clear HJ1 HJ2
        rcases Int.lt_or_le 65536 (8 * (s.size : Int)) with d2 | d2
        · skip
          go_wp2_with fail
          refine (join_known _ (by decide) hzb HK1.out HK2.out).mono ?_
          rintro e w' ⟨rfl, rfl⟩
          go_wp2_with fail
          go_ret
          exact ⟨rfl, HBel.out⟩
        · have hfin : Pl.bitsT (Pl.L s) q = y := by
            have h1 := Pl.ones_bits s q (by have := HM.out; have := HQM.out; omega)
            have h2 := HN.out
            omega
          go_wp2_with fail
          refine (join_known _ (by decide) hzb HK1.out HK2.out).mono ?_
          rintro e w' ⟨rfl, rfl⟩
          go_wp2_with fail
          go_ret
          exact ⟨rfl, HBel.out⟩

set_option maxRecDepth 20000 in
theorem walk_posC (s : ByteArray) (p : Int) (k : Nat) (hs : s.size ≤ 140737488351232) (hp1 : -9223372036854775808 ≤ p) (hp2 : p ≤ 9223372036854775807) (w : World)
    (hk : k ≤ s.size) (hk0 : k ≠ 0) (hkn : k ≠ s.size) (hmod : p.tmod ((s.size : Int) + 1) = (k : Int)) :
    Calls Try.prog 11 #[.string s, .int .i64 p] w fun e w' => e = .returned (.bool true) ∧ Below w.heap.size w w' := by
  obtain ⟨a, hae⟩ : ∃ a, a = Pl.B ((Pl.L s).take k) := ⟨_, rfl⟩
  obtain ⟨b, hbe⟩ : ∃ b, b = Pl.B ((Pl.L s).drop k) := ⟨_, rfl⟩
  have HJ := Pl.hid (Pl.join_cut s k hk)
  have hxa := Pl.ext_head s k
  have hxb := Pl.ext_rest s k
  have HZ := Pl.hid (Pl.cut_size s k hk)
  have HN := Pl.hid (Pl.ones_cut (Pl.L s) k)
  have hLa : Pl.L a = (Pl.L s).take k := by rw [hae, Pl.L_B]
  have hLb : Pl.L b = (Pl.L s).drop k := by rw [hbe, Pl.L_B]
  rw [← hae] at HJ hxa HZ
  rw [← hbe] at HJ hxb HZ
  rw [← hLa, ← hLb] at HN
  have za := HZ.out.1
  have zb := HZ.out.2
  have hza : a.size ≤ 140737488351232 := by omega
  have hzb : b.size ≤ 140737488351232 := by omega
  obtain ⟨x, hx⟩ : ∃ x, x = Pl.onesL (Pl.L a) 0 (-1) := ⟨_, rfl⟩
  obtain ⟨y, hy⟩ : ∃ y, y = Pl.onesL (Pl.L b) 0 (-1) := ⟨_, rfl⟩
  have hxb0 := Pl.bitsT_bd (Pl.L a) (8 * (Pl.L a).length)
  have hyb0 := Pl.bitsT_bd (Pl.L b) (8 * (Pl.L b).length)
  rw [← Pl.onesL_all, ← hx, Pl.L_length] at hxb0
  rw [← Pl.onesL_all, ← hy, Pl.L_length] at hyb0
  rw [← hx, ← hy] at HN
  have HX := Pl.hid hx.symm
  have HY := Pl.hid hy.symm
  have x0 : 0 ≤ x := hxb0.1
  have x1 : x ≤ 1125899906842624 := by omega
  have y0 : 0 ≤ y := hyb0.1
  have y1 : y ≤ 1125899906842624 := by omega
  have HAs : Hid (Pl.B (Pl.slcL (Pl.L s) 0 ((k : Int) - 1)) = a) := by show _ = _; rw [Pl.slc_head _ _ (by omega) (by rw [Pl.L_length]; omega), hae]
  have HBs : Hid (Pl.B (Pl.slcL (Pl.L s) (k : Int) (-1)) = b) := by show _ = _; rw [Pl.slc_rest _ _ (by rw [Pl.L_length]; omega), hbe]
  have he : ((k : Int) == (s.size : Int)) = false := by exact beq_eq_false_iff_ne.2 (by omega)
  obtain ⟨M, hM⟩ : ∃ M : Nat, min (8 * (s.size : Int)) 65536 = (M : Int) := ⟨(min (8 * (s.size : Int)) 65536).toNat, by omega⟩
  have hM1 : M ≤ 65536 := by omega
  have HM := Pl.hid hM
  clear hx hy hae hbe hLa hLb hxb0 hyb0 za zb HZ
  have hk2 : k < s.size := by omega
  clear hkn
  have hk1 : 1 ≤ k := by omega
  clear hk0
  go_enter Try.func11, Try.ntmps11
  go_wp2_with fail
  refine (wakes_walk _).mono ?_
  rintro e w1 ⟨rfl, hb1⟩
  have HB1 := Pl.hid hb1
  clear hb1
  go_wp2_with fail
  refine (slice_known (r := a) _ ⟨by omega, by omega⟩ ⟨by omega, by omega⟩ (by omega) HAs.out).mono ?_
  rintro e w' ⟨rfl, rfl⟩
  go_wp2_with fail
  refine (slice_known (r := b) _ ⟨by omega, by omega⟩ ⟨by omega, by omega⟩ (by omega) HBs.out).mono ?_
  rintro e w' ⟨rfl, rfl⟩
  go_wp2_with fail
  refine (ones_known (n := x + y) _ ⟨by omega, by omega⟩ ⟨by omega, by omega⟩ (by first | omega | decide) (by have := HN.out; omega)).mono ?_
  rintro e w2 ⟨rfl, hb2⟩
  have HB2 := Pl.hid (HB1.out.trans (hb2.mono HB1.out.size))
  clear hb2 HB1
  go_wp2_with fail
  refine (ones_known (n := x) _ ⟨by omega, by omega⟩ ⟨by omega, by omega⟩ (by first | omega | decide) HX.out).mono ?_
  rintro e w3 ⟨rfl, hb3⟩
  have HB3 := Pl.hid (HB2.out.trans (hb3.mono HB2.out.size))
  clear hb3 HB2
  go_wp2_with fail
  refine (ones_known (n := y) _ ⟨by omega, by omega⟩ ⟨by omega, by omega⟩ (by first | omega | decide) HY.out).mono ?_
  rintro e w4 ⟨rfl, hb4⟩
  have HB4 := Pl.hid (HB3.out.trans (hb4.mono HB3.out.size))
  clear hb4 HB3
  go_wp2_with fail
  clear hM
  go_loopw [9, 69] (fun t i wr => ∃ q : Nat, q ≤ M ∧ i = .int .i64 q ∧ t = .int .i64 (Pl.bitsT (Pl.L s) q) ∧ Below w.heap.size w wr) (fun _ i _ => M - (intOf i).toNat)
  case atStart => exact ⟨0, Nat.zero_le _, rfl, rfl, HB4.out⟩
  case round =>
    obtain ⟨q, hq, rfl, rfl, hbel⟩ := hrel
    have HBel := Pl.hid hbel
    clear hbel
    obtain ⟨hb0, hb1⟩ := Pl.bitsT_bd (Pl.L s) q
    by_cases hlt : q < M
    · have HQ := Pl.hid (Pl.bitV_in (l := Pl.L s) (i := (q : Int)) ⟨by omega, by omega⟩)
      have HQC := Pl.hid (Pl.bitC_in (i := (q : Int)) ⟨by omega, by omega⟩)
      have hstep : Pl.bitsT (Pl.L s) (q + 1) = Pl.bitsT (Pl.L s) q + Pl.bitL (Pl.L s) q := rfl
      obtain ⟨g, hg⟩ : ∃ g, g = Pl.bitsT (Pl.L s) q := ⟨_, rfl⟩
      rw [← hg] at hb0 hb1 hstep ⊢
      have g1 : g ≤ 65536 := by omega
      clear hg hb1
      rw [Int.toNat_natCast] at HQ
      rcases Pl.bitL_01 (Pl.L s) q with hy | hy
      all_goals
        rw [hy] at HQ hstep
        have HG := Pl.hid hstep
        clear hy hstep
        go_wp2_with fail
        refine (bit_known (c := 0) _ HQ.out HQC.out).mono ?_
        rintro e w5 ⟨rfl, hb5⟩
        have HB5 := Pl.hid (HBel.out.trans (hb5.mono HBel.out.size))
        clear hb5 HBel
        go_wp2_with fail
        go_roundw
        case rel => exact ⟨q + 1, by omega, by go_num, by simp only [HG.out, Int.add_zero], HB5.out⟩
        case measure => simp [intOf]; omega
    · have HQM : Hid (q = M) := by show _ = _; omega
      rcases Nat.lt_or_ge 1048576 s.size with d | d
      · have hfar : 65536 < 8 * (s.size : Int) := by omega
        have HJ1 := HJ.out.1
        have HJ2 := HJ.out.2
        rw [if_pos d] at HJ1 HJ2
        rw [Pl.B_nil] at HJ1
        have HK1 := Pl.hid HJ1
        have HK2 := Pl.hid HJ2
        clear HJ1 HJ2
        go_wp2_with fail
        refine (join_known _ hza hzb HK1.out HK2.out).mono ?_
        rintro e w' ⟨rfl, rfl⟩
        go_wp2_with fail
        go_ret
        exact ⟨rfl, HBel.out⟩
      · have HJ1 := HJ.out.1
        have HJ2 := HJ.out.2
        rw [if_neg (by omega)] at HJ1 HJ2
        have HK1 := Pl.hid HJ1
        have HK2 := Pl.hid HJ2
        clear HJ1 HJ2
        rcases Int.lt_or_le 65536 (8 * (s.size : Int)) with d2 | d2
        · skip
          go_wp2_with fail
          refine (join_known _ hza hzb HK1.out HK2.out).mono ?_
          rintro e w' ⟨rfl, rfl⟩
          go_wp2_with fail
          go_ret
          exact ⟨rfl, HBel.out⟩
        · have hfin : Pl.bitsT (Pl.L s) q = x + y := by
            have h1 := Pl.ones_bits s q (by have := HM.out; have := HQM.out; omega)
            have h2 := HN.out
            omega
          go_wp2_with fail
          refine (join_known _ hza hzb HK1.out HK2.out).mono ?_
          rintro e w' ⟨rfl, rfl⟩
          go_wp2_with fail
          go_ret
          exact ⟨rfl, HBel.out⟩

set_option maxRecDepth 20000 in
theorem walk_posD (s : ByteArray) (p : Int) (k : Nat) (hs : s.size ≤ 140737488351232) (hp1 : -9223372036854775808 ≤ p) (hp2 : p ≤ 9223372036854775807) (w : World)
    (hk : k ≤ s.size) (hk0 : k ≠ 0) (hkn : k = s.size) (hmod : p.tmod ((s.size : Int) + 1) = (k : Int)) :
    Calls Try.prog 11 #[.string s, .int .i64 p] w fun e w' => e = .returned (.bool true) ∧ Below w.heap.size w w' := by
  obtain ⟨a, hae⟩ : ∃ a, a = Pl.B ((Pl.L s).take k) := ⟨_, rfl⟩
  obtain ⟨b, hbe⟩ : ∃ b, b = Pl.B ((Pl.L s).drop k) := ⟨_, rfl⟩
  have HJ := Pl.hid (Pl.join_cut s k hk)
  have hxa := Pl.ext_head s k
  have hxb := Pl.ext_rest s k
  have HZ := Pl.hid (Pl.cut_size s k hk)
  have HN := Pl.hid (Pl.ones_cut (Pl.L s) k)
  have hLa : Pl.L a = (Pl.L s).take k := by rw [hae, Pl.L_B]
  have hLb : Pl.L b = (Pl.L s).drop k := by rw [hbe, Pl.L_B]
  rw [← hae] at HJ hxa HZ
  rw [← hbe] at HJ hxb HZ
  rw [← hLa, ← hLb] at HN
  have za := HZ.out.1
  have zb := HZ.out.2
  have hza : a.size ≤ 140737488351232 := by omega
  have hzb : b.size ≤ 140737488351232 := by omega
  obtain ⟨x, hx⟩ : ∃ x, x = Pl.onesL (Pl.L a) 0 (-1) := ⟨_, rfl⟩
  obtain ⟨y, hy⟩ : ∃ y, y = Pl.onesL (Pl.L b) 0 (-1) := ⟨_, rfl⟩
  have hxb0 := Pl.bitsT_bd (Pl.L a) (8 * (Pl.L a).length)
  have hyb0 := Pl.bitsT_bd (Pl.L b) (8 * (Pl.L b).length)
  rw [← Pl.onesL_all, ← hx, Pl.L_length] at hxb0
  rw [← Pl.onesL_all, ← hy, Pl.L_length] at hyb0
  rw [← hx, ← hy] at HN
  have HX := Pl.hid hx.symm
  have HY := Pl.hid hy.symm
  have x0 : 0 ≤ x := hxb0.1
  have x1 : x ≤ 1125899906842624 := by omega
  have y0 : 0 ≤ y := hyb0.1
  have y1 : y ≤ 1125899906842624 := by omega
  have HAs : Hid (Pl.B (Pl.slcL (Pl.L s) 0 ((k : Int) - 1)) = a) := by show _ = _; rw [Pl.slc_head _ _ (by omega) (by rw [Pl.L_length]; omega), hae]
  have hb0 : b = (⟨#[]⟩ : ByteArray) := by rw [hbe, hkn, ← Pl.L_length, List.drop_length]; rfl
  have hyz : y = 0 := by omega
  have he : ((k : Int) == (s.size : Int)) = true := by exact beq_iff_eq.2 (by omega)
  obtain ⟨M, hM⟩ : ∃ M : Nat, min (8 * (s.size : Int)) 65536 = (M : Int) := ⟨(min (8 * (s.size : Int)) 65536).toNat, by omega⟩
  have hM1 : M ≤ 65536 := by omega
  have HM := Pl.hid hM
  clear hx hy hae hbe hLa hLb hxb0 hyb0 za zb HZ
  subst hb0 hyz
  have HK := Pl.hid hkn
  clear hkn
  have hk1 : 1 ≤ k := by omega
  clear hk0
  go_enter Try.func11, Try.ntmps11
  go_wp2_with fail
  refine (wakes_walk _).mono ?_
  rintro e w1 ⟨rfl, hb1⟩
  have HB1 := Pl.hid hb1
  clear hb1
  go_wp2_with fail
  refine (slice_known (r := a) _ ⟨by omega, by omega⟩ ⟨by omega, by omega⟩ (by omega) HAs.out).mono ?_
  rintro e w' ⟨rfl, rfl⟩
  go_wp2_with fail
  refine (slice_walk _ _ _ _ ⟨by omega, by omega⟩ ⟨by omega, by omega⟩ (by omega)).mono ?_
  rintro e w' ⟨rfl, rfl⟩
  go_wp2_with fail
  refine (ones_known (n := x) _ ⟨by omega, by omega⟩ ⟨by omega, by omega⟩ (by first | omega | decide) (by have := HN.out; omega)).mono ?_
  rintro e w2 ⟨rfl, hb2⟩
  have HB2 := Pl.hid (HB1.out.trans (hb2.mono HB1.out.size))
  clear hb2 HB1
  go_wp2_with fail
  refine (ones_known (n := x) _ ⟨by omega, by omega⟩ ⟨by omega, by omega⟩ (by first | omega | decide) HX.out).mono ?_
  rintro e w3 ⟨rfl, hb3⟩
  have HB3 := Pl.hid (HB2.out.trans (hb3.mono HB2.out.size))
  clear hb3 HB2
  go_wp2_with fail
  refine (ones_known (n := 0) _ ⟨by omega, by omega⟩ ⟨by omega, by omega⟩ (by first | omega | decide) HY.out).mono ?_
  rintro e w4 ⟨rfl, hb4⟩
  have HB4 := Pl.hid (HB3.out.trans (hb4.mono HB3.out.size))
  clear hb4 HB3
  go_wp2_with fail
  clear hM
  go_loopw [9, 69] (fun t i wr => ∃ q : Nat, q ≤ M ∧ i = .int .i64 q ∧ t = .int .i64 (Pl.bitsT (Pl.L s) q) ∧ Below w.heap.size w wr) (fun _ i _ => M - (intOf i).toNat)
  case atStart => exact ⟨0, Nat.zero_le _, rfl, rfl, HB4.out⟩
  case round =>
    obtain ⟨q, hq, rfl, rfl, hbel⟩ := hrel
    have HBel := Pl.hid hbel
    clear hbel
    obtain ⟨hb0, hb1⟩ := Pl.bitsT_bd (Pl.L s) q
    by_cases hlt : q < M
    · have HQ := Pl.hid (Pl.bitV_in (l := Pl.L s) (i := (q : Int)) ⟨by omega, by omega⟩)
      have HQC := Pl.hid (Pl.bitC_in (i := (q : Int)) ⟨by omega, by omega⟩)
      have hstep : Pl.bitsT (Pl.L s) (q + 1) = Pl.bitsT (Pl.L s) q + Pl.bitL (Pl.L s) q := rfl
      obtain ⟨g, hg⟩ : ∃ g, g = Pl.bitsT (Pl.L s) q := ⟨_, rfl⟩
      rw [← hg] at hb0 hb1 hstep ⊢
      have g1 : g ≤ 65536 := by omega
      clear hg hb1
      rw [Int.toNat_natCast] at HQ
      rcases Pl.bitL_01 (Pl.L s) q with hy | hy
      all_goals
        rw [hy] at HQ hstep
        have HG := Pl.hid hstep
        clear hy hstep
        go_wp2_with fail
        refine (bit_known (c := 0) _ HQ.out HQC.out).mono ?_
        rintro e w5 ⟨rfl, hb5⟩
        have HB5 := Pl.hid (HBel.out.trans (hb5.mono HBel.out.size))
        clear hb5 HBel
        go_wp2_with fail
        go_roundw
        case rel => exact ⟨q + 1, by omega, by go_num, by simp only [HG.out, Int.add_zero], HB5.out⟩
        case measure => simp [intOf]; omega
    · have HQM : Hid (q = M) := by show _ = _; omega
      rcases Nat.lt_or_ge 1048576 s.size with d | d
      · have hfar : 65536 < 8 * (s.size : Int) := by omega
        have HJ1 := HJ.out.1
        have HJ2 := HJ.out.2
        rw [if_pos d] at HJ1 HJ2
        rw [Pl.B_nil] at HJ1
        have HK1 := Pl.hid HJ1
        have HK2 := Pl.hid HJ2
        clear HJ1 HJ2
        go_wp2_with fail
        refine (join_known _ hza (by decide) HK1.out HK2.out).mono ?_
        rintro e w' ⟨rfl, rfl⟩
        go_wp2_with fail
        go_ret
        exact ⟨rfl, HBel.out⟩
      · have HJ1 := HJ.out.1
        have HJ2 := HJ.out.2
        rw [if_neg (by omega)] at HJ1 HJ2
        have HK1 := Pl.hid HJ1
        have HK2 := Pl.hid HJ2
        clear HJ1 HJ2
        rcases Int.lt_or_le 65536 (8 * (s.size : Int)) with d2 | d2
        · skip
          go_wp2_with fail
          refine (join_known _ hza (by decide) HK1.out HK2.out).mono ?_
          rintro e w' ⟨rfl, rfl⟩
          go_wp2_with fail
          go_ret
          exact ⟨rfl, HBel.out⟩
        · have hfin : Pl.bitsT (Pl.L s) q = x := by
            have h1 := Pl.ones_bits s q (by have := HM.out; have := HQM.out; omega)
            have h2 := HN.out
            omega
          go_wp2_with fail
          refine (join_known _ hza (by decide) HK1.out HK2.out).mono ?_
          rintro e w' ⟨rfl, rfl⟩
          go_wp2_with fail
          go_ret
          exact ⟨rfl, HBel.out⟩

set_option maxRecDepth 20000 in
theorem walk_negC (s : ByteArray) (p : Int) (k : Nat) (hs : s.size ≤ 140737488351232) (hp1 : -9223372036854775808 ≤ p) (hp2 : p ≤ 9223372036854775807) (w : World)
    (hk : k ≤ s.size) (hk0 : k ≠ 0) (hkn : k ≠ s.size) (hmod : p.tmod ((s.size : Int) + 1) = (k : Int) - ((s.size : Int) + 1)) :
    Calls Try.prog 11 #[.string s, .int .i64 p] w fun e w' => e = .returned (.bool true) ∧ Below w.heap.size w w' := by
  obtain ⟨a, hae⟩ : ∃ a, a = Pl.B ((Pl.L s).take k) := ⟨_, rfl⟩
  obtain ⟨b, hbe⟩ : ∃ b, b = Pl.B ((Pl.L s).drop k) := ⟨_, rfl⟩
  have HJ := Pl.hid (Pl.join_cut s k hk)
  have hxa := Pl.ext_head s k
  have hxb := Pl.ext_rest s k
  have HZ := Pl.hid (Pl.cut_size s k hk)
  have HN := Pl.hid (Pl.ones_cut (Pl.L s) k)
  have hLa : Pl.L a = (Pl.L s).take k := by rw [hae, Pl.L_B]
  have hLb : Pl.L b = (Pl.L s).drop k := by rw [hbe, Pl.L_B]
  rw [← hae] at HJ hxa HZ
  rw [← hbe] at HJ hxb HZ
  rw [← hLa, ← hLb] at HN
  have za := HZ.out.1
  have zb := HZ.out.2
  have hza : a.size ≤ 140737488351232 := by omega
  have hzb : b.size ≤ 140737488351232 := by omega
  obtain ⟨x, hx⟩ : ∃ x, x = Pl.onesL (Pl.L a) 0 (-1) := ⟨_, rfl⟩
  obtain ⟨y, hy⟩ : ∃ y, y = Pl.onesL (Pl.L b) 0 (-1) := ⟨_, rfl⟩
  have hxb0 := Pl.bitsT_bd (Pl.L a) (8 * (Pl.L a).length)
  have hyb0 := Pl.bitsT_bd (Pl.L b) (8 * (Pl.L b).length)
  rw [← Pl.onesL_all, ← hx, Pl.L_length] at hxb0
  rw [← Pl.onesL_all, ← hy, Pl.L_length] at hyb0
  rw [← hx, ← hy] at HN
  have HX := Pl.hid hx.symm
  have HY := Pl.hid hy.symm
  have x0 : 0 ≤ x := hxb0.1
  have x1 : x ≤ 1125899906842624 := by omega
  have y0 : 0 ≤ y := hyb0.1
  have y1 : y ≤ 1125899906842624 := by omega
  have HAs : Hid (Pl.B (Pl.slcL (Pl.L s) 0 ((k : Int) - 1)) = a) := by show _ = _; rw [Pl.slc_head _ _ (by omega) (by rw [Pl.L_length]; omega), hae]
  have HBs : Hid (Pl.B (Pl.slcL (Pl.L s) (k : Int) (-1)) = b) := by show _ = _; rw [Pl.slc_rest _ _ (by rw [Pl.L_length]; omega), hbe]
  have he : ((k : Int) == (s.size : Int)) = false := by exact beq_eq_false_iff_ne.2 (by omega)
  obtain ⟨M, hM⟩ : ∃ M : Nat, min (8 * (s.size : Int)) 65536 = (M : Int) := ⟨(min (8 * (s.size : Int)) 65536).toNat, by omega⟩
  have hM1 : M ≤ 65536 := by omega
  have HM := Pl.hid hM
  clear hx hy hae hbe hLa hLb hxb0 hyb0 za zb HZ
  have hk2 : k < s.size := by omega
  clear hkn
  have hk1 : 1 ≤ k := by omega
  clear hk0
  go_enter Try.func11, Try.ntmps11
  go_wp2_with fail
  refine (wakes_walk _).mono ?_
  rintro e w1 ⟨rfl, hb1⟩
  have HB1 := Pl.hid hb1
  clear hb1
  go_wp2_with fail
  refine (slice_known (r := a) _ ⟨by omega, by omega⟩ ⟨by omega, by omega⟩ (by omega) HAs.out).mono ?_
  rintro e w' ⟨rfl, rfl⟩
  go_wp2_with fail
  refine (slice_known (r := b) _ ⟨by omega, by omega⟩ ⟨by omega, by omega⟩ (by omega) HBs.out).mono ?_
  rintro e w' ⟨rfl, rfl⟩
  go_wp2_with fail
  refine (ones_known (n := x + y) _ ⟨by omega, by omega⟩ ⟨by omega, by omega⟩ (by first | omega | decide) (by have := HN.out; omega)).mono ?_
  rintro e w2 ⟨rfl, hb2⟩
  have HB2 := Pl.hid (HB1.out.trans (hb2.mono HB1.out.size))
  clear hb2 HB1
  go_wp2_with fail
  refine (ones_known (n := x) _ ⟨by omega, by omega⟩ ⟨by omega, by omega⟩ (by first | omega | decide) HX.out).mono ?_
  rintro e w3 ⟨rfl, hb3⟩
  have HB3 := Pl.hid (HB2.out.trans (hb3.mono HB2.out.size))
  clear hb3 HB2
  go_wp2_with fail
  refine (ones_known (n := y) _ ⟨by omega, by omega⟩ ⟨by omega, by omega⟩ (by first | omega | decide) HY.out).mono ?_
  rintro e w4 ⟨rfl, hb4⟩
  have HB4 := Pl.hid (HB3.out.trans (hb4.mono HB3.out.size))
  clear hb4 HB3
  go_wp2_with fail
  clear hM
  go_loopw [9, 69] (fun t i wr => ∃ q : Nat, q ≤ M ∧ i = .int .i64 q ∧ t = .int .i64 (Pl.bitsT (Pl.L s) q) ∧ Below w.heap.size w wr) (fun _ i _ => M - (intOf i).toNat)
  case atStart => exact ⟨0, Nat.zero_le _, rfl, rfl, HB4.out⟩
  case round =>
    obtain ⟨q, hq, rfl, rfl, hbel⟩ := hrel
    have HBel := Pl.hid hbel
    clear hbel
    obtain ⟨hb0, hb1⟩ := Pl.bitsT_bd (Pl.L s) q
    by_cases hlt : q < M
    · have HQ := Pl.hid (Pl.bitV_in (l := Pl.L s) (i := (q : Int)) ⟨by omega, by omega⟩)
      have HQC := Pl.hid (Pl.bitC_in (i := (q : Int)) ⟨by omega, by omega⟩)
      have hstep : Pl.bitsT (Pl.L s) (q + 1) = Pl.bitsT (Pl.L s) q + Pl.bitL (Pl.L s) q := rfl
      obtain ⟨g, hg⟩ : ∃ g, g = Pl.bitsT (Pl.L s) q := ⟨_, rfl⟩
      rw [← hg] at hb0 hb1 hstep ⊢
      have g1 : g ≤ 65536 := by omega
      clear hg hb1
      rw [Int.toNat_natCast] at HQ
      rcases Pl.bitL_01 (Pl.L s) q with hy | hy
      all_goals
        rw [hy] at HQ hstep
        have HG := Pl.hid hstep
        clear hy hstep
        go_wp2_with fail
        refine (bit_known (c := 0) _ HQ.out HQC.out).mono ?_
        rintro e w5 ⟨rfl, hb5⟩
        have HB5 := Pl.hid (HBel.out.trans (hb5.mono HBel.out.size))
        clear hb5 HBel
        go_wp2_with fail
        go_roundw
        case rel => exact ⟨q + 1, by omega, by go_num, by simp only [HG.out, Int.add_zero], HB5.out⟩
        case measure => simp [intOf]; omega
    · have HQM : Hid (q = M) := by show _ = _; omega
      rcases Nat.lt_or_ge 1048576 s.size with d | d
      · have hfar : 65536 < 8 * (s.size : Int) := by omega
        have HJ1 := HJ.out.1
        have HJ2 := HJ.out.2
        rw [if_pos d] at HJ1 HJ2
        rw [Pl.B_nil] at HJ1
        have HK1 := Pl.hid HJ1
        have HK2 := Pl.hid HJ2
        clear HJ1 HJ2
        go_wp2_with fail
        refine (join_known _ hza hzb HK1.out HK2.out).mono ?_
        rintro e w' ⟨rfl, rfl⟩
        go_wp2_with fail
        go_ret
        exact ⟨rfl, HBel.out⟩
      · have HJ1 := HJ.out.1
        have HJ2 := HJ.out.2
        rw [if_neg (by omega)] at HJ1 HJ2
        have HK1 := Pl.hid HJ1
        have HK2 := Pl.hid HJ2
        clear HJ1 HJ2
        rcases Int.lt_or_le 65536 (8 * (s.size : Int)) with d2 | d2
        · skip
          go_wp2_with fail
          refine (join_known _ hza hzb HK1.out HK2.out).mono ?_
          rintro e w' ⟨rfl, rfl⟩
          go_wp2_with fail
          go_ret
          exact ⟨rfl, HBel.out⟩
        · have hfin : Pl.bitsT (Pl.L s) q = x + y := by
            have h1 := Pl.ones_bits s q (by have := HM.out; have := HQM.out; omega)
            have h2 := HN.out
            omega
          go_wp2_with fail
          refine (join_known _ hza hzb HK1.out HK2.out).mono ?_
          rintro e w' ⟨rfl, rfl⟩
          go_wp2_with fail
          go_ret
          exact ⟨rfl, HBel.out⟩

set_option maxRecDepth 20000 in
theorem walk_negD (s : ByteArray) (p : Int) (k : Nat) (hs : s.size ≤ 140737488351232) (hp1 : -9223372036854775808 ≤ p) (hp2 : p ≤ 9223372036854775807) (w : World)
    (hk : k ≤ s.size) (hk0 : k ≠ 0) (hkn : k = s.size) (hmod : p.tmod ((s.size : Int) + 1) = (k : Int) - ((s.size : Int) + 1)) :
    Calls Try.prog 11 #[.string s, .int .i64 p] w fun e w' => e = .returned (.bool true) ∧ Below w.heap.size w w' := by
  obtain ⟨a, hae⟩ : ∃ a, a = Pl.B ((Pl.L s).take k) := ⟨_, rfl⟩
  obtain ⟨b, hbe⟩ : ∃ b, b = Pl.B ((Pl.L s).drop k) := ⟨_, rfl⟩
  have HJ := Pl.hid (Pl.join_cut s k hk)
  have hxa := Pl.ext_head s k
  have hxb := Pl.ext_rest s k
  have HZ := Pl.hid (Pl.cut_size s k hk)
  have HN := Pl.hid (Pl.ones_cut (Pl.L s) k)
  have hLa : Pl.L a = (Pl.L s).take k := by rw [hae, Pl.L_B]
  have hLb : Pl.L b = (Pl.L s).drop k := by rw [hbe, Pl.L_B]
  rw [← hae] at HJ hxa HZ
  rw [← hbe] at HJ hxb HZ
  rw [← hLa, ← hLb] at HN
  have za := HZ.out.1
  have zb := HZ.out.2
  have hza : a.size ≤ 140737488351232 := by omega
  have hzb : b.size ≤ 140737488351232 := by omega
  obtain ⟨x, hx⟩ : ∃ x, x = Pl.onesL (Pl.L a) 0 (-1) := ⟨_, rfl⟩
  obtain ⟨y, hy⟩ : ∃ y, y = Pl.onesL (Pl.L b) 0 (-1) := ⟨_, rfl⟩
  have hxb0 := Pl.bitsT_bd (Pl.L a) (8 * (Pl.L a).length)
  have hyb0 := Pl.bitsT_bd (Pl.L b) (8 * (Pl.L b).length)
  rw [← Pl.onesL_all, ← hx, Pl.L_length] at hxb0
  rw [← Pl.onesL_all, ← hy, Pl.L_length] at hyb0
  rw [← hx, ← hy] at HN
  have HX := Pl.hid hx.symm
  have HY := Pl.hid hy.symm
  have x0 : 0 ≤ x := hxb0.1
  have x1 : x ≤ 1125899906842624 := by omega
  have y0 : 0 ≤ y := hyb0.1
  have y1 : y ≤ 1125899906842624 := by omega
  have HAs : Hid (Pl.B (Pl.slcL (Pl.L s) 0 ((k : Int) - 1)) = a) := by show _ = _; rw [Pl.slc_head _ _ (by omega) (by rw [Pl.L_length]; omega), hae]
  have hb0 : b = (⟨#[]⟩ : ByteArray) := by rw [hbe, hkn, ← Pl.L_length, List.drop_length]; rfl
  have hyz : y = 0 := by omega
  have he : ((k : Int) == (s.size : Int)) = true := by exact beq_iff_eq.2 (by omega)
  obtain ⟨M, hM⟩ : ∃ M : Nat, min (8 * (s.size : Int)) 65536 = (M : Int) := ⟨(min (8 * (s.size : Int)) 65536).toNat, by omega⟩
  have hM1 : M ≤ 65536 := by omega
  have HM := Pl.hid hM
  clear hx hy hae hbe hLa hLb hxb0 hyb0 za zb HZ
  subst hb0 hyz
  have HK := Pl.hid hkn
  clear hkn
  have hk1 : 1 ≤ k := by omega
  clear hk0
  go_enter Try.func11, Try.ntmps11
  go_wp2_with fail
  refine (wakes_walk _).mono ?_
  rintro e w1 ⟨rfl, hb1⟩
  have HB1 := Pl.hid hb1
  clear hb1
  go_wp2_with fail
  refine (slice_known (r := a) _ ⟨by omega, by omega⟩ ⟨by omega, by omega⟩ (by omega) HAs.out).mono ?_
  rintro e w' ⟨rfl, rfl⟩
  go_wp2_with fail
  refine (slice_walk _ _ _ _ ⟨by omega, by omega⟩ ⟨by omega, by omega⟩ (by omega)).mono ?_
  rintro e w' ⟨rfl, rfl⟩
  go_wp2_with fail
  refine (ones_known (n := x) _ ⟨by omega, by omega⟩ ⟨by omega, by omega⟩ (by first | omega | decide) (by have := HN.out; omega)).mono ?_
  rintro e w2 ⟨rfl, hb2⟩
  have HB2 := Pl.hid (HB1.out.trans (hb2.mono HB1.out.size))
  clear hb2 HB1
  go_wp2_with fail
  refine (ones_known (n := x) _ ⟨by omega, by omega⟩ ⟨by omega, by omega⟩ (by first | omega | decide) HX.out).mono ?_
  rintro e w3 ⟨rfl, hb3⟩
  have HB3 := Pl.hid (HB2.out.trans (hb3.mono HB2.out.size))
  clear hb3 HB2
  go_wp2_with fail
  refine (ones_known (n := 0) _ ⟨by omega, by omega⟩ ⟨by omega, by omega⟩ (by first | omega | decide) HY.out).mono ?_
  rintro e w4 ⟨rfl, hb4⟩
  have HB4 := Pl.hid (HB3.out.trans (hb4.mono HB3.out.size))
  clear hb4 HB3
  go_wp2_with fail
  clear hM
  go_loopw [9, 69] (fun t i wr => ∃ q : Nat, q ≤ M ∧ i = .int .i64 q ∧ t = .int .i64 (Pl.bitsT (Pl.L s) q) ∧ Below w.heap.size w wr) (fun _ i _ => M - (intOf i).toNat)
  case atStart => exact ⟨0, Nat.zero_le _, rfl, rfl, HB4.out⟩
  case round =>
    obtain ⟨q, hq, rfl, rfl, hbel⟩ := hrel
    have HBel := Pl.hid hbel
    clear hbel
    obtain ⟨hb0, hb1⟩ := Pl.bitsT_bd (Pl.L s) q
    by_cases hlt : q < M
    · have HQ := Pl.hid (Pl.bitV_in (l := Pl.L s) (i := (q : Int)) ⟨by omega, by omega⟩)
      have HQC := Pl.hid (Pl.bitC_in (i := (q : Int)) ⟨by omega, by omega⟩)
      have hstep : Pl.bitsT (Pl.L s) (q + 1) = Pl.bitsT (Pl.L s) q + Pl.bitL (Pl.L s) q := rfl
      obtain ⟨g, hg⟩ : ∃ g, g = Pl.bitsT (Pl.L s) q := ⟨_, rfl⟩
      rw [← hg] at hb0 hb1 hstep ⊢
      have g1 : g ≤ 65536 := by omega
      clear hg hb1
      rw [Int.toNat_natCast] at HQ
      rcases Pl.bitL_01 (Pl.L s) q with hy | hy
      all_goals
        rw [hy] at HQ hstep
        have HG := Pl.hid hstep
        clear hy hstep
        go_wp2_with fail
        refine (bit_known (c := 0) _ HQ.out HQC.out).mono ?_
        rintro e w5 ⟨rfl, hb5⟩
        have HB5 := Pl.hid (HBel.out.trans (hb5.mono HBel.out.size))
        clear hb5 HBel
        go_wp2_with fail
        go_roundw
        case rel => exact ⟨q + 1, by omega, by go_num, by simp only [HG.out, Int.add_zero], HB5.out⟩
        case measure => simp [intOf]; omega
    · have HQM : Hid (q = M) := by show _ = _; omega
      rcases Nat.lt_or_ge 1048576 s.size with d | d
      · have hfar : 65536 < 8 * (s.size : Int) := by omega
        have HJ1 := HJ.out.1
        have HJ2 := HJ.out.2
        rw [if_pos d] at HJ1 HJ2
        rw [Pl.B_nil] at HJ1
        have HK1 := Pl.hid HJ1
        have HK2 := Pl.hid HJ2
        clear HJ1 HJ2
        go_wp2_with fail
        refine (join_known _ hza (by decide) HK1.out HK2.out).mono ?_
        rintro e w' ⟨rfl, rfl⟩
        go_wp2_with fail
        go_ret
        exact ⟨rfl, HBel.out⟩
      · have HJ1 := HJ.out.1
        have HJ2 := HJ.out.2
        rw [if_neg (by omega)] at HJ1 HJ2
        have HK1 := Pl.hid HJ1
        have HK2 := Pl.hid HJ2
        clear HJ1 HJ2
        rcases Int.lt_or_le 65536 (8 * (s.size : Int)) with d2 | d2
        · skip
          go_wp2_with fail
          refine (join_known _ hza (by decide) HK1.out HK2.out).mono ?_
          rintro e w' ⟨rfl, rfl⟩
          go_wp2_with fail
          go_ret
          exact ⟨rfl, HBel.out⟩
        · have hfin : Pl.bitsT (Pl.L s) q = x := by
            have h1 := Pl.ones_bits s q (by have := HM.out; have := HQM.out; omega)
            have h2 := HN.out
            omega
          go_wp2_with fail
          refine (join_known _ hza (by decide) HK1.out HK2.out).mono ?_
          rintro e w' ⟨rfl, rfl⟩
          go_wp2_with fail
          go_ret
          exact ⟨rfl, HBel.out⟩


theorem walk (s : ByteArray) (p : Int) (hs : s.size ≤ 140737488351232) (hp : Pl.In64 p) (w : World) :
    Calls Try.prog 11 #[.string s, .int .i64 p] w fun e w' => e = .returned (.bool true) ∧ Below w.heap.size w w' := by
  obtain ⟨hp1, hp2⟩ := hp
  have h1 : p.tmod ((s.size : Int) + 1) < (s.size : Int) + 1 := Int.tmod_lt_of_pos _ (by omega)
  have h2 : -((s.size : Int) + 1) < p.tmod ((s.size : Int) + 1) := Int.lt_tmod_of_pos _ (by omega)
  obtain ⟨r, hr⟩ : ∃ r, p.tmod ((s.size : Int) + 1) = r := ⟨_, rfl⟩
  rw [hr] at h1 h2
  rcases Int.lt_or_le r 0 with c | c
  · obtain ⟨k, hk⟩ : ∃ k : Nat, r = (k : Int) - ((s.size : Int) + 1) := ⟨(r + ((s.size : Int) + 1)).toNat, by omega⟩
    rw [hk] at hr
    by_cases e : k = s.size
    · exact walk_negD s p k hs hp1 hp2 w (by omega) (by omega) e hr
    · exact walk_negC s p k hs hp1 hp2 w (by omega) (by omega) e hr
  · obtain ⟨k, hk⟩ : ∃ k : Nat, r = (k : Int) := ⟨r.toNat, by omega⟩
    rw [hk] at hr
    by_cases e0 : k = 0
    · have hr0 : p.tmod ((s.size : Int) + 1) = 0 := by omega
      by_cases e : k = s.size
      · exact walk_posA s p k hs hp1 hp2 w (by omega) e0 e hr0
      · exact walk_posB s p k hs hp1 hp2 w (by omega) e0 e hr0
    · by_cases e : k = s.size
      · exact walk_posD s p k hs hp1 hp2 w (by omega) e0 e hr
      · exact walk_posC s p k hs hp1 hp2 w (by omega) e0 e hr

set_option maxRecDepth 100000 in
theorem lifted (os : Os) (started : os.Started) (H : Type) (enc : TypeId × Value → H) (F : Stop.Interp) :
    ReturnsInHanded {} Try.checked os 11 .any ((OpenSpec.ofChange Rows.patchCountsSpec).preRow enc Try.prog Try.f11 Rows.patchCountsRow.domain false Rows.patchCountsRow.laid)
      (((OpenSpec.ofChange Rows.patchCountsSpec).at F).post enc Try.prog Try.f11 false true false false) := by
  refine Fr.lifted (C := Try.checked) (s := OpenSpec.ofChange Rows.patchCountsSpec) (tb := 4) (by kernel_rfl) started (by kernel_rfl) Try.func11
    (witness_row_at (enc := enc) (C := Try.checked) false (World.holding Try.prog os ⟨#[], #[], []⟩) #[.string .empty, .int .i64 0] rfl (by kernel_rfl) (by kernel_rfl) (by kernel_rfl)
      (OpenSpec.preRow_of_cond 8 (x := ([.lit (.string []), .lit (.int .i64 0)], [], [])) (by kernel_rfl) (by kernel_rfl) (fun k hk => by cases hk) (by kernel_rfl) ⟨[], rfl, .nil, fun _ _ h => by cases h⟩))
    (by kernel_rfl) (by kernel_rfl) rfl rfl Try.underlying4 ?_ ?_
  · intro ds hd
    match ds, hd with
    | [d0, d1], _ => rfl
  · intro W base args ds before hval hA hz hk hsz hL hsh
    rw [Try.params11] at hval hA hsz
    obtain ⟨v0, vs0, d0, ds0, p0, q0, hargs, rfl, rfl, h0, r0⟩ := trodAll_cons hA
    obtain ⟨v1, vs1, d1, ds1, p1, q1, rfl, rfl, rfl, h1, r1⟩ := trodAll_cons r0
    obtain ⟨rfl, rfl, rfl⟩ := trodAll_nil r1
    obtain rfl : args = #[v0, v1] := by cases args; simp_all
    obtain ⟨a0, rfl, rfl, rfl, w0⟩ := open_string Try.underlying9 (hval 0 9 v0 rfl rfl) h0
    have z0 := Fr.str_size (sized_string hsz (j := 0) (t := 9) rfl rfl)
    obtain ⟨a1, rfl, rfl, rfl, w1⟩ := open_int Try.underlying3 (hval 1 3 v1 rfl rfl) h1
    exact walk a0 a1 z0 (bounds_i64 w1) W

/-- the statement -/
theorem proved : Rows.PatchCountsSaid :=
  OpenClaim.holds_of_cond 11 Try.f11 rfl rfl rfl rfl rfl rfl rfl ⟨rfl, rfl, rfl, rfl, rfl⟩ rfl rfl rfl rfl rfl (by kernel_rfl) Try.func11 (by kernel_rfl)
    (of_decide_eq_true (by kernel_rfl)) (by unfold Func.isWrapper; first | (rw [if_pos (by decide +kernel)]; kernel_rfl) | (rw [if_neg (by decide +kernel)]; exact ⟨rfl, rfl⟩))
    (fun os started H enc _ F => by rw [OpenClaim.pre_eq_preRow]; exact lifted os started H enc F)
#print axioms proved
end Go.Proofs.Ytfelkiflknjkdaa.patchCounts
