/- pantrylaw08.PatchTurns: at every text and every three numbers of 64 bits the law returns true. No condition. -/
import Derived.Test.YtfelkiflknjkdaaPatI
import Derived.Test.YtfelkiflknjkdaaPlainR
import Derived.Test.YtfelkiflknjkdaaFrame
namespace Go.Proofs.Ytfelkiflknjkdaa.patchTurns
open Go.ChangeShapes Go.WideShapes Go.ChangeAt Go.RowKit
open Go.ChangeMaps (open_string shut_string)

theorem bit_known {s : ByteArray} {i x c : Int} (w : World) (h : Pl.bitV (Pl.L s) i = x) (hc : Pl.bitC i = c) :
    Calls Try.prog 27 #[.string s, .int .i64 i] w fun e w' => e = .returned (.tuple #[.int .i64 x, .int .i64 c]) ∧ Below w.heap.size w w' := by
  rw [← h, ← hc]; exact bit_walk s i w

set_option maxRecDepth 20000 in
theorem walk_bad (s : ByteArray) (i b j : Int) (hs : s.size ≤ 140737488351232) (_ : Pl.In64 j) (w : World) (ha : Pl.sbArg i b) :
    Calls Try.prog 9 #[.string s, .int .i64 i, .int .i64 b, .int .i64 j] w fun e w' => e = .returned (.bool true) ∧ Below w.heap.size w w' := by
  have H0 := Pl.hid (Pl.sb_arg (s := s) ha)
  rcases Int.lt_or_le i 0 with c1 | c1
  · clear ha
    go_enter Try.func9, Try.ntmps9
    go_wp2_with fail
    refine (wakes_walk _).mono ?_
    rintro e w1 ⟨rfl, hb1⟩
    have HB1 := Pl.hid hb1
    clear hb1
    go_wp2_with fail
    refine (sb_known (r := ⟨#[]⟩) (x := 0) (c := 3) _ hs H0.out.1 H0.out.2.1 H0.out.2.2).mono ?_
    rintro e w2 ⟨rfl, hb2⟩
    have HB2 := Pl.hid (HB1.out.trans (hb2.mono HB1.out.size))
    clear hb2 HB1
    go_wp2_with fail
    go_ret
    exact ⟨rfl, HB2.out⟩
  · rcases Int.lt_or_le i 1073741824 with c2 | c2
    · rcases Int.lt_or_le b 0 with c3 | c3
      · clear ha
        go_enter Try.func9, Try.ntmps9
        go_wp2_with fail
        refine (wakes_walk _).mono ?_
        rintro e w1 ⟨rfl, hb1⟩
        have HB1 := Pl.hid hb1
        clear hb1
        go_wp2_with fail
        refine (sb_known (r := ⟨#[]⟩) (x := 0) (c := 3) _ hs H0.out.1 H0.out.2.1 H0.out.2.2).mono ?_
        rintro e w2 ⟨rfl, hb2⟩
        have HB2 := Pl.hid (HB1.out.trans (hb2.mono HB1.out.size))
        clear hb2 HB1
        go_wp2_with fail
        go_ret
        exact ⟨rfl, HB2.out⟩
      · have c4 : 1 < b := by unfold Pl.sbArg at ha; omega
        clear ha
        go_enter Try.func9, Try.ntmps9
        go_wp2_with fail
        refine (wakes_walk _).mono ?_
        rintro e w1 ⟨rfl, hb1⟩
        have HB1 := Pl.hid hb1
        clear hb1
        go_wp2_with fail
        refine (sb_known (r := ⟨#[]⟩) (x := 0) (c := 3) _ hs H0.out.1 H0.out.2.1 H0.out.2.2).mono ?_
        rintro e w2 ⟨rfl, hb2⟩
        have HB2 := Pl.hid (HB1.out.trans (hb2.mono HB1.out.size))
        clear hb2 HB1
        go_wp2_with fail
        go_ret
        exact ⟨rfl, HB2.out⟩
    · clear ha
      go_enter Try.func9, Try.ntmps9
      go_wp2_with fail
      refine (wakes_walk _).mono ?_
      rintro e w1 ⟨rfl, hb1⟩
      have HB1 := Pl.hid hb1
      clear hb1
      go_wp2_with fail
      refine (sb_known (r := ⟨#[]⟩) (x := 0) (c := 3) _ hs H0.out.1 H0.out.2.1 H0.out.2.2).mono ?_
      rintro e w2 ⟨rfl, hb2⟩
      have HB2 := Pl.hid (HB1.out.trans (hb2.mono HB1.out.size))
      clear hb2 HB1
      go_wp2_with fail
      go_ret
      exact ⟨rfl, HB2.out⟩
set_option maxRecDepth 20000 in
theorem walk_long (s : ByteArray) (i b j : Int) (hs : s.size ≤ 140737488351232) (_ : Pl.In64 j) (w : World) (ha : ¬ Pl.sbArg i b) (hl : Pl.sbLong s i) :
    Calls Try.prog 9 #[.string s, .int .i64 i, .int .i64 b, .int .i64 j] w fun e w' => e = .returned (.bool true) ∧ Below w.heap.size w w' := by
  have H0 := Pl.hid (Pl.sb_long ha hl)
  have h0 : 0 ≤ i := by unfold Pl.sbArg at ha; omega
  have h1 : i ≤ 1073741823 := by unfold Pl.sbArg at ha; omega
  have h2 : 0 ≤ b := by unfold Pl.sbArg at ha; omega
  have h3 : b ≤ 1 := by unfold Pl.sbArg at ha; omega
  rcases Nat.lt_or_ge 1048576 s.size with d | d
  · clear ha hl
    go_enter Try.func9, Try.ntmps9
    go_wp2_with fail
    refine (wakes_walk _).mono ?_
    rintro e w1 ⟨rfl, hb1⟩
    have HB1 := Pl.hid hb1
    clear hb1
    go_wp2_with fail
    refine (sb_known (r := ⟨#[]⟩) (x := 0) (c := 2) _ hs H0.out.1 H0.out.2.1 H0.out.2.2).mono ?_
    rintro e w2 ⟨rfl, hb2⟩
    have HB2 := Pl.hid (HB1.out.trans (hb2.mono HB1.out.size))
    clear hb2 HB1
    go_wp2_with fail
    go_ret
    exact ⟨rfl, HB2.out⟩
  · have d2 : 8388608 ≤ i := by unfold Pl.sbLong at hl; omega
    clear ha hl
    go_enter Try.func9, Try.ntmps9
    go_wp2_with fail
    refine (wakes_walk _).mono ?_
    rintro e w1 ⟨rfl, hb1⟩
    have HB1 := Pl.hid hb1
    clear hb1
    go_wp2_with fail
    refine (sb_known (r := ⟨#[]⟩) (x := 0) (c := 2) _ hs H0.out.1 H0.out.2.1 H0.out.2.2).mono ?_
    rintro e w2 ⟨rfl, hb2⟩
    have HB2 := Pl.hid (HB1.out.trans (hb2.mono HB1.out.size))
    clear hb2 HB1
    go_wp2_with fail
    go_ret
    exact ⟨rfl, HB2.out⟩
set_option maxRecDepth 20000 in
theorem walk_ok (s : ByteArray) (i b j : Int) (hs : s.size ≤ 140737488351232) (hj : Pl.In64 j) (w : World) (ha : ¬ Pl.sbArg i b) (hl : ¬ Pl.sbLong s i) :
    Calls Try.prog 9 #[.string s, .int .i64 i, .int .i64 b, .int .i64 j] w fun e w' => e = .returned (.bool true) ∧ Below w.heap.size w w' := by
  have h0 : 0 ≤ i := by unfold Pl.sbArg at ha; omega
  have hbb : b = 0 ∨ b = 1 := by unfold Pl.sbArg at ha; omega
  have h2 : 0 ≤ b := by omega
  have h3 : b ≤ 1 := by omega
  have d1 : (s.size : Int) ≤ 1048576 := by unfold Pl.sbLong at hl; omega
  have d2 : i ≤ 8388607 := by unfold Pl.sbLong at hl; omega
  have H0 := Pl.hid (Pl.sb_ok ha hl)
  have HC := Pl.hid (Pl.bitC_in (i := i) (by omega))
  have HV := Pl.hid (Pl.bitV_in (l := Pl.L s) (i := i) (by omega))
  obtain ⟨u, hu⟩ : ∃ u, u = Pl.bitL (Pl.L s) i.toNat := ⟨_, rfl⟩
  have hu01 := Pl.bitL_01 (Pl.L s) i.toNat
  have HN2 := Pl.hid (Pl.ones_sb (Pl.L s) i.toNat b hbb)
  have HK := Pl.hid (Pl.sb_back (Pl.L s) i.toNat b hbb)
  have HBT := Pl.hid (fun q => Pl.bitL_sb (Pl.L s) i.toNat b hbb q)
  rw [← hu] at H0 HV hu01 HN2 HK
  clear hu
  have u0 : 0 ≤ u := by omega
  have u1 : u ≤ 1 := by omega
  obtain ⟨n, hn⟩ : ∃ n, n = Pl.onesL (Pl.L s) 0 (-1) := ⟨_, rfl⟩
  have hnb := Pl.bitsT_bd (Pl.L s) (8 * (Pl.L s).length)
  rw [← Pl.onesL_all, ← hn, Pl.L_length] at hnb
  obtain ⟨n0, n1⟩ := hnb
  rw [← hn] at HN2
  have HN1 := Pl.hid hn.symm
  clear hn
  obtain ⟨l, hl2⟩ : ∃ l, l = Pl.sbL (Pl.L s) i.toNat b := ⟨_, rfl⟩
  have hlz : l.length = max s.size (i.toNat / 8 + 1) := by rw [hl2, Pl.sbL_length, Pl.L_length]
  rw [← hl2] at H0 HN2 HK HBT
  clear hl2
  obtain ⟨O, hO⟩ : ∃ O, O = Pl.B l := ⟨_, rfl⟩
  have hOz : O.size = l.length := by rw [hO, Pl.B_size]
  have hOL : Pl.L O = l := by rw [hO, Pl.L_B]
  rw [← hO] at H0
  rw [← hOL] at HN2 HK HBT
  have g1 : s.size ≤ O.size := by omega
  have g2 : i / 8 + 1 ≤ O.size := by omega
  have g3 : O.size ≤ 1048576 := by omega
  have hmq : (O.size : Int) = max (s.size : Int) (i / 8 + 1) := by omega
  have hmx : ((O.size : Int) != max (s.size : Int) (i / 8 + 1)) = false := by rw [hmq, bne_self_eq_false]
  have hlO : ¬ Pl.sbLong O i := by unfold Pl.sbLong; omega
  have haO : ¬ Pl.sbArg i u := by unfold Pl.sbArg; omega
  have H3 := Pl.hid (Pl.sb_ok haO hlO)
  rw [HK.out, HBT.out, if_pos rfl] at H3
  obtain ⟨K, hKd⟩ : ∃ K, K = Pl.B (Pl.filL (Pl.L s) (i.toNat / 8 + 1)) := ⟨_, rfl⟩
  rw [← hKd] at H3
  have hKz : K.size = O.size := by rw [hKd, Pl.B_size, Pl.filL_length, Pl.L_length]; omega
  have hKs : K.extract 0 s.size = s := by rw [Pl.extract_B, hKd, Pl.L_B]; unfold Pl.slc; rw [List.drop_zero, Nat.sub_zero, ← Pl.L_length s, Pl.fil_take, Pl.B_L]
  have HVO : Hid (Pl.bitV (Pl.L O) i = b) := by show _ = _; rw [Pl.bitV_in (by omega), HBT.out, if_pos rfl]
  have HOJ : j ≠ i → Pl.bitV (Pl.L O) j = Pl.bitV (Pl.L s) j := by
    intro hne
    by_cases hr : 0 ≤ j ∧ j < 1073741824
    · rw [Pl.bitV_in hr, Pl.bitV_in hr, HBT.out, if_neg (by omega)]
    · rw [Pl.bitV_out hr, Pl.bitV_out hr]
  clear ha hl hbb hu01 hO hOz hOL hlz hmq hlO haO hKd HK HBT
  go_enter Try.func9, Try.ntmps9
  go_wp2_with fail
  refine (wakes_walk _).mono ?_
  rintro e w1 ⟨rfl, hb1⟩
  have HB1 := Pl.hid hb1
  clear hb1
  go_wp2_with fail
  refine (sb_known (r := O) (x := u) (c := 0) _ hs H0.out.1 H0.out.2.1 H0.out.2.2).mono ?_
  rintro e w2 ⟨rfl, hb2⟩
  have HB2 := Pl.hid (HB1.out.trans (hb2.mono HB1.out.size))
  clear hb2 HB1
  go_wp2_with fail
  refine (bit_known (x := u) (c := 0) _ HV.out HC.out).mono ?_
  rintro e w3 ⟨rfl, hb3⟩
  have HB3 := Pl.hid (HB2.out.trans (hb3.mono HB2.out.size))
  clear hb3 HB2
  go_wp2_with fail
  refine (bit_known (x := b) (c := 0) _ HVO.out HC.out).mono ?_
  rintro e w4 ⟨rfl, hb4⟩
  have HB4 := Pl.hid (HB3.out.trans (hb4.mono HB3.out.size))
  clear hb4 HB3
  by_cases hji : j = i
  · subst hji
    clear HOJ
    go_wp2_with fail
    refine (sb_known (s := O) (r := K) (x := b) (c := 0) _ (by omega) H3.out.1 H3.out.2.1 H3.out.2.2).mono ?_
    rintro e w7 ⟨rfl, hb7⟩
    have HB7 := Pl.hid (HB4.out.trans (hb7.mono HB4.out.size))
    clear hb7 HB4
    go_wp2_with fail
    refine (ones_known (n := n + b - u) _ ⟨by omega, by omega⟩ ⟨by omega, by omega⟩ (by omega) HN2.out).mono ?_
    rintro e w8 ⟨rfl, hb8⟩
    have HB8 := Pl.hid (HB7.out.trans (hb8.mono HB7.out.size))
    clear hb8 HB7
    go_wp2_with fail
    refine (ones_known (n := n) _ ⟨by omega, by omega⟩ ⟨by omega, by omega⟩ (by omega) HN1.out).mono ?_
    rintro e w9 ⟨rfl, hb9⟩
    have HB9 := Pl.hid (HB8.out.trans (hb9.mono HB8.out.size))
    clear hb9 HB8
    go_wp2_with fail
    go_ret
    exact ⟨rfl, HB9.out⟩
  · have HJ := Pl.hid (HOJ hji)
    clear HOJ
    obtain ⟨y, hy⟩ : ∃ y, y = Pl.bitV (Pl.L s) j := ⟨_, rfl⟩
    rw [← hy] at HJ
    have HY := Pl.hid hy.symm
    clear hy
    have hjn : (j != i) = true := by rw [bne, beq_eq_false_iff_ne.2 hji]; rfl
    clear hji
    by_cases hr : 0 ≤ j ∧ j < 1073741824
    · have HJC := Pl.hid (Pl.bitC_in hr)
      obtain ⟨r1, r2⟩ := hr
      go_wp2_with fail
      refine (bit_known (x := y) (c := 0) _ HY.out HJC.out).mono ?_
      rintro e w5 ⟨rfl, hb5⟩
      have HB5 := Pl.hid (HB4.out.trans (hb5.mono HB4.out.size))
      clear hb5 HB4
      go_wp2_with fail
      refine (bit_known (x := y) (c := 0) _ HJ.out HJC.out).mono ?_
      rintro e w6 ⟨rfl, hb6⟩
      have HB6 := Pl.hid (HB5.out.trans (hb6.mono HB5.out.size))
      clear hb6 HB5
      go_wp2_with fail
      refine (sb_known (s := O) (r := K) (x := b) (c := 0) _ (by omega) H3.out.1 H3.out.2.1 H3.out.2.2).mono ?_
      rintro e w7 ⟨rfl, hb7⟩
      have HB7 := Pl.hid (HB6.out.trans (hb7.mono HB6.out.size))
      clear hb7 HB6
      go_wp2_with fail
      refine (ones_known (n := n + b - u) _ ⟨by omega, by omega⟩ ⟨by omega, by omega⟩ (by omega) HN2.out).mono ?_
      rintro e w8 ⟨rfl, hb8⟩
      have HB8 := Pl.hid (HB7.out.trans (hb8.mono HB7.out.size))
      clear hb8 HB7
      go_wp2_with fail
      refine (ones_known (n := n) _ ⟨by omega, by omega⟩ ⟨by omega, by omega⟩ (by omega) HN1.out).mono ?_
      rintro e w9 ⟨rfl, hb9⟩
      have HB9 := Pl.hid (HB8.out.trans (hb9.mono HB8.out.size))
      clear hb9 HB8
      go_wp2_with fail
      go_ret
      exact ⟨rfl, HB9.out⟩
    · have HJC := Pl.hid (Pl.bitC_out hr)
      rcases Int.lt_or_le j 0 with c1 | c1
      · clear hr
        go_wp2_with fail
        refine (bit_known (x := y) (c := 3) _ HY.out HJC.out).mono ?_
        rintro e w5 ⟨rfl, hb5⟩
        have HB5 := Pl.hid (HB4.out.trans (hb5.mono HB4.out.size))
        clear hb5 HB4
        go_wp2_with fail
        refine (bit_known (x := y) (c := 3) _ HJ.out HJC.out).mono ?_
        rintro e w6 ⟨rfl, hb6⟩
        have HB6 := Pl.hid (HB5.out.trans (hb6.mono HB5.out.size))
        clear hb6 HB5
        go_wp2_with fail
        refine (sb_known (s := O) (r := K) (x := b) (c := 0) _ (by omega) H3.out.1 H3.out.2.1 H3.out.2.2).mono ?_
        rintro e w7 ⟨rfl, hb7⟩
        have HB7 := Pl.hid (HB6.out.trans (hb7.mono HB6.out.size))
        clear hb7 HB6
        go_wp2_with fail
        refine (ones_known (n := n + b - u) _ ⟨by omega, by omega⟩ ⟨by omega, by omega⟩ (by omega) HN2.out).mono ?_
        rintro e w8 ⟨rfl, hb8⟩
        have HB8 := Pl.hid (HB7.out.trans (hb8.mono HB7.out.size))
        clear hb8 HB7
        go_wp2_with fail
        refine (ones_known (n := n) _ ⟨by omega, by omega⟩ ⟨by omega, by omega⟩ (by omega) HN1.out).mono ?_
        rintro e w9 ⟨rfl, hb9⟩
        have HB9 := Pl.hid (HB8.out.trans (hb9.mono HB8.out.size))
        clear hb9 HB8
        go_wp2_with fail
        go_ret
        exact ⟨rfl, HB9.out⟩
      · have c2 : 1073741824 ≤ j := by omega
        clear hr
        go_wp2_with fail
        refine (bit_known (x := y) (c := 3) _ HY.out HJC.out).mono ?_
        rintro e w5 ⟨rfl, hb5⟩
        have HB5 := Pl.hid (HB4.out.trans (hb5.mono HB4.out.size))
        clear hb5 HB4
        go_wp2_with fail
        refine (bit_known (x := y) (c := 3) _ HJ.out HJC.out).mono ?_
        rintro e w6 ⟨rfl, hb6⟩
        have HB6 := Pl.hid (HB5.out.trans (hb6.mono HB5.out.size))
        clear hb6 HB5
        go_wp2_with fail
        refine (sb_known (s := O) (r := K) (x := b) (c := 0) _ (by omega) H3.out.1 H3.out.2.1 H3.out.2.2).mono ?_
        rintro e w7 ⟨rfl, hb7⟩
        have HB7 := Pl.hid (HB6.out.trans (hb7.mono HB6.out.size))
        clear hb7 HB6
        go_wp2_with fail
        refine (ones_known (n := n + b - u) _ ⟨by omega, by omega⟩ ⟨by omega, by omega⟩ (by omega) HN2.out).mono ?_
        rintro e w8 ⟨rfl, hb8⟩
        have HB8 := Pl.hid (HB7.out.trans (hb8.mono HB7.out.size))
        clear hb8 HB7
        go_wp2_with fail
        refine (ones_known (n := n) _ ⟨by omega, by omega⟩ ⟨by omega, by omega⟩ (by omega) HN1.out).mono ?_
        rintro e w9 ⟨rfl, hb9⟩
        have HB9 := Pl.hid (HB8.out.trans (hb9.mono HB8.out.size))
        clear hb9 HB8
        go_wp2_with fail
        go_ret
        exact ⟨rfl, HB9.out⟩
theorem walk (s : ByteArray) (i b j : Int) (hs : s.size ≤ 140737488351232) (_ : Pl.In64 i) (_ : Pl.In64 b) (hj : Pl.In64 j) (w : World) :
    Calls Try.prog 9 #[.string s, .int .i64 i, .int .i64 b, .int .i64 j] w fun e w' => e = .returned (.bool true) ∧ Below w.heap.size w w' := by
  by_cases ha : Pl.sbArg i b
  · exact walk_bad s i b j hs hj w ha
  · by_cases hl : Pl.sbLong s i
    · exact walk_long s i b j hs hj w ha hl
    · exact walk_ok s i b j hs hj w ha hl

set_option maxRecDepth 100000 in
theorem lifted (os : Os) (started : os.Started) (H : Type) (enc : TypeId × Value → H) (F : Stop.Interp) :
    ReturnsInHanded {} Try.checked os 9 .any ((OpenSpec.ofChange Rows.patchTurnsSpec).preRow enc Try.prog Try.f9 Rows.patchTurnsRow.domain false Rows.patchTurnsRow.laid)
      (((OpenSpec.ofChange Rows.patchTurnsSpec).at F).post enc Try.prog Try.f9 false true false false) := by
  refine Fr.lifted (C := Try.checked) (s := OpenSpec.ofChange Rows.patchTurnsSpec) (tb := 4) (by kernel_rfl) started (by kernel_rfl) Try.func9
    (witness_row_at (enc := enc) (C := Try.checked) false (World.holding Try.prog os ⟨#[], #[], []⟩) #[.string .empty, .int .i64 0, .int .i64 0, .int .i64 0] rfl (by kernel_rfl) (by kernel_rfl) (by kernel_rfl)
      (OpenSpec.preRow_of_cond 8 (x := ([.lit (.string []), .lit (.int .i64 0), .lit (.int .i64 0), .lit (.int .i64 0)], [], [])) (by kernel_rfl) (by kernel_rfl) (fun k hk => by cases hk) (by kernel_rfl) ⟨[], rfl, .nil, fun _ _ h => by cases h⟩))
    (by kernel_rfl) (by kernel_rfl) rfl rfl Try.underlying4 ?_ ?_
  · intro ds hd
    match ds, hd with
    | [d0, d1, d2, d3], _ => rfl
  · intro W base args ds before hval hA hz hk hsz hL hsh
    rw [Try.params9] at hval hA hsz
    obtain ⟨v0, vs0, d0, ds0, p0, q0, hargs, rfl, rfl, h0, r0⟩ := trodAll_cons hA
    obtain ⟨v1, vs1, d1, ds1, p1, q1, rfl, rfl, rfl, h1, r1⟩ := trodAll_cons r0
    obtain ⟨v2, vs2, d2, ds2, p2, q2, rfl, rfl, rfl, h2, r2⟩ := trodAll_cons r1
    obtain ⟨v3, vs3, d3, ds3, p3, q3, rfl, rfl, rfl, h3, r3⟩ := trodAll_cons r2
    obtain ⟨rfl, rfl, rfl⟩ := trodAll_nil r3
    obtain rfl : args = #[v0, v1, v2, v3] := by cases args; simp_all
    obtain ⟨a0, rfl, rfl, rfl, w0⟩ := open_string Try.underlying9 (hval 0 9 v0 rfl rfl) h0
    have z0 := Fr.str_size (sized_string hsz (j := 0) (t := 9) rfl rfl)
    obtain ⟨a1, rfl, rfl, rfl, w1⟩ := open_int Try.underlying2 (hval 1 2 v1 rfl rfl) h1
    obtain ⟨a2, rfl, rfl, rfl, w2⟩ := open_int Try.underlying3 (hval 2 3 v2 rfl rfl) h2
    obtain ⟨a3, rfl, rfl, rfl, w3⟩ := open_int Try.underlying2 (hval 3 2 v3 rfl rfl) h3
    exact walk a0 a1 a2 a3 z0 (bounds_i64 w1) (bounds_i64 w2) (bounds_i64 w3) W

/-- the statement -/
theorem proved : Rows.PatchTurnsSaid :=
  OpenClaim.holds_of_cond 9 Try.f9 rfl rfl rfl rfl rfl rfl rfl ⟨rfl, rfl, rfl, rfl, rfl⟩ rfl rfl rfl rfl rfl (by kernel_rfl) Try.func9 (by kernel_rfl)
    (of_decide_eq_true (by kernel_rfl)) (by unfold Func.isWrapper; first | (rw [if_pos (by decide +kernel)]; kernel_rfl) | (rw [if_neg (by decide +kernel)]; exact ⟨rfl, rfl⟩))
    (fun os started H enc _ F => by rw [OpenClaim.pre_eq_preRow]; exact lifted os started H enc F)
#print axioms proved
end Go.Proofs.Ytfelkiflknjkdaa.patchTurns
