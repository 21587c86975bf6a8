/- pantrylaw08.PatchKeeps: at every two texts and every number of 64 bits the law returns true. No condition. -/
import Derived.Test.YtfelkiflknjkdaaPatI
import Derived.Test.YtfelkiflknjkdaaPlainQ
import Derived.Test.YtfelkiflknjkdaaFrame
namespace Go.Proofs.Ytfelkiflknjkdaa.patchKeeps
open Go.ChangeShapes Go.WideShapes Go.ChangeAt Go.RowKit
open Go.ChangeMaps (open_string shut_string)

theorem slice_known {s r : ByteArray} {a b : Int} (w : World) (ha : Pl.In64 a) (hb : Pl.In64 b) (hs : s.size ≤ 9223372036854775807) (h : Pl.B (Pl.slcL (Pl.L s) a b) = r) :
    Calls Try.prog 24 #[.string s, .int .i64 a, .int .i64 b] w fun e w' => e = .returned (.string r) ∧ w = w' := by
  rw [← h]; exact slice_walk s a b w ha hb hs
theorem walk_ok (s : ByteArray) (p : Int) (v : ByteArray) (w : World) (h0 : 0 ≤ p) (cv : v.size ≠ 0) (cl : ¬ (1048576 < s.size ∨ 1048576 < p ∨ 1048576 < p + v.size)) :
    Calls Try.prog 8 #[.string s, .int .i64 p, .string v] w fun e w' => e = .returned (.bool true) ∧ Below w.heap.size w w' := by
  have H1 := Pl.hid (Pl.ov_ok h0 cv cl)
  have H2 := Pl.hid (Pl.ov_again h0 cv cl)
  have HS := Pl.hid (Pl.ovL_slc (Pl.L s) (Pl.L v) p h0 (by rw [Pl.L_length]; omega))
  have he : v.toList.isEmpty = false := Pl.empty_no (by omega)
  have HG := Pl.hid (fun i hi => Pl.ovL_getD (Pl.L s) (Pl.L v) p.toNat i hi)
  have hz0 : (Pl.ovL (Pl.L s) (Pl.L v) p.toNat).length = max s.size (p.toNat + v.size) := by rw [Pl.ovL_length, Pl.L_length, Pl.L_length]
  obtain ⟨l, hl⟩ : ∃ l, l = Pl.ovL (Pl.L s) (Pl.L v) p.toNat := ⟨_, rfl⟩
  rw [← hl] at H1 H2 HS HG hz0
  obtain ⟨O, hO⟩ : ∃ O, O = Pl.B l := ⟨_, rfl⟩
  have hOz : O.size = l.length := by rw [hO, Pl.B_size]
  rw [← hO] at H1 H2
  have HO := Pl.hid hO
  have d1 : (s.size : Int) ≤ 1048576 := by omega
  have d2 : p ≤ 1048576 := by omega
  have d3 : p + (v.size : Int) ≤ 1048576 := by omega
  have d4 : 1 ≤ v.size := by omega
  have hm1 : s.size ≤ O.size := by omega
  have hm2 : p + (v.size : Int) ≤ O.size := by omega
  have hm3 : O.size ≤ 1048576 := by omega
  have hmq : (O.size : Int) = max (s.size : Int) (p + (v.size : Int)) := by omega
  have hmx : ((O.size : Int) != max (s.size : Int) (p + (v.size : Int))) = false := by rw [hmq, bne_self_eq_false]
  have HOz := Pl.hid hOz
  have HOm := Pl.hid (show O.size = max s.size (p.toNat + v.size) by omega)
  clear cl cv hl hO hOz hz0 hmq
  go_enter Try.func8, Try.ntmps8
  go_wp2_with fail
  refine (wakes_walk _).mono ?_
  rintro e w1 ⟨rfl, hb1⟩
  have HB1 := Pl.hid hb1
  clear hb1
  go_wp2_with fail
  refine (ov_known (r := O) (c := 0) _ ⟨by omega, by omega⟩ (by omega) (by omega) H1.out.1 H1.out.2).mono ?_
  rintro e w2 ⟨rfl, hb2⟩
  have HB2 := Pl.hid (HB1.out.trans (hb2.mono HB1.out.size))
  clear hb2 HB1
  go_wp2_with fail
  go_loop [80] (fun i => ∃ k : Nat, k ≤ O.size ∧ i = .int .i64 k) (fun i => O.size - (intOf i).toNat)
  case atStart => exact ⟨0, Nat.zero_le _, rfl⟩
  case round =>
    obtain ⟨k, hk, rfl⟩ := hrel
    by_cases hlt : k < O.size
    · have hgk := HG.out k (by rw [Pl.L_length, Pl.L_length, ← HOm.out]; exact hlt)
      have hok : O[k] = l.getD k 0 := by rw [Pl.L_get, HO.out, Pl.L_B]
      rw [Pl.L_length] at hgk
      by_cases c0 : p ≤ (k : Int) ∧ (k : Int) < p + (v.size : Int)
      · obtain ⟨c1, c2⟩ := c0
        have hkv : ((k : Int) - p).toNat < v.size := by omega
        rw [if_pos (by omega)] at hgk
        have hne : ((O[k].toNat : Int) != ((v[((k : Int) - p).toNat]'hkv).toNat : Int)) = false := by
          rw [show v[((k : Int) - p).toNat]'hkv = O[k] by rw [hok, hgk, Pl.L_get, show ((k : Int) - p).toNat = k - p.toNat by omega], bne_self_eq_false]
        clear hgk hok
        rcases Nat.lt_or_ge k s.size with c3 | c3
        · go_wp2
          go_round
          case rel => exact ⟨k + 1, by omega, by go_num⟩
          case measure => simp [intOf]; omega
        · go_wp2
          go_round
          case rel => exact ⟨k + 1, by omega, by go_num⟩
          case measure => simp [intOf]; omega
      · rw [if_neg (by omega)] at hgk
        rcases Nat.lt_or_ge k s.size with c3 | c3
        · have hne : ((O[k].toNat : Int) != (s[k].toNat : Int)) = false := by rw [hok, hgk, ← Pl.L_get s k c3, bne_self_eq_false]
          clear hgk hok
          rcases Int.lt_or_le (k : Int) p with c1 | c1
          · clear c0
            go_wp2
            go_round
            case rel => exact ⟨k + 1, by omega, by go_num⟩
            case measure => simp [intOf]; omega
          · have c2 : p + (v.size : Int) ≤ k := by omega
            clear c0
            go_wp2
            go_round
            case rel => exact ⟨k + 1, by omega, by go_num⟩
            case measure => simp [intOf]; omega
        · have hne : ((O[k].toNat : Int) != 0) = false := by
            have := Pl.at_out (Pl.L s) k (by rw [Pl.L_length]; omega)
            unfold Pl.at_ at this
            rw [hok, hgk, this, bne_self_eq_false]
          clear hgk hok
          rcases Int.lt_or_le (k : Int) p with c1 | c1
          · clear c0
            go_wp2
            go_round
            case rel => exact ⟨k + 1, by omega, by go_num⟩
            case measure => simp [intOf]; omega
          · have c2 : p + (v.size : Int) ≤ k := by omega
            clear c0
            go_wp2
            go_round
            case rel => exact ⟨k + 1, by omega, by go_num⟩
            case measure => simp [intOf]; omega
    · go_wp2_with fail
      refine (ov_known (r := O) (c := 0) _ ⟨by omega, by omega⟩ (by omega) (by omega) H2.out.1 H2.out.2).mono ?_
      rintro e w3 ⟨rfl, hb3⟩
      have HB3 := Pl.hid (HB2.out.trans (hb3.mono HB2.out.size))
      clear hb3 HB2
      go_wp2_with fail
      refine (slice_known (r := v) _ ⟨by omega, by omega⟩ ⟨by omega, by omega⟩ (by omega) (by rw [HO.out, Pl.L_B, ← Pl.L_length v, HS.out, Pl.B_L])).mono ?_
      rintro e w' ⟨rfl, rfl⟩
      go_wp2_with fail
      go_ret
      exact ⟨rfl, HB3.out⟩
theorem walk (s : ByteArray) (p : Int) (v : ByteArray) (hs : s.size ≤ 140737488351232) (hp : Pl.In64 p) (hv : v.size ≤ 140737488351232) (w : World) :
    Calls Try.prog 8 #[.string s, .int .i64 p, .string v] w fun e w' => e = .returned (.bool true) ∧ Below w.heap.size w w' := by
  obtain ⟨p1, p2⟩ := hp
  rcases Int.lt_or_le p 0 with c | c
  · have H0 := Pl.hid (Pl.ov_neg (s := s) (v := v) c)
    go_enter Try.func8, Try.ntmps8
    go_wp2_with fail
    refine (wakes_walk _).mono ?_
    rintro e w1 ⟨rfl, hb1⟩
    have H1 := Pl.hid hb1
    clear hb1
    go_wp2_with fail
    refine (ov_known (r := ⟨#[]⟩) (c := 3) _ ⟨p1, p2⟩ hs hv H0.out.1 H0.out.2).mono ?_
    rintro e w2 ⟨rfl, hb2⟩
    have H2 := Pl.hid (H1.out.trans (hb2.mono H1.out.size))
    clear hb2 H1
    go_wp2_with fail
    go_ret
    exact ⟨rfl, H2.out⟩
  · by_cases cv : v.size = 0
    · have H0 := Pl.hid (Pl.ov_nil (s := s) c cv)
      have he : v.toList.isEmpty = true := Pl.empty_yes (by omega)
      clear cv
      go_enter Try.func8, Try.ntmps8
      go_wp2_with fail
      refine (wakes_walk _).mono ?_
      rintro e w1 ⟨rfl, hb1⟩
      have H1 := Pl.hid hb1
      clear hb1
      go_wp2_with fail
      refine (ov_known (r := s) (c := 0) _ ⟨p1, p2⟩ hs hv H0.out.1 H0.out.2).mono ?_
      rintro e w2 ⟨rfl, hb2⟩
      have H2 := Pl.hid (H1.out.trans (hb2.mono H1.out.size))
      clear hb2 H1
      go_wp2_with fail
      go_ret
      exact ⟨rfl, H2.out⟩
    · by_cases cl : 1048576 < s.size ∨ 1048576 < p ∨ 1048576 < p + v.size
      · have H0 := Pl.hid (Pl.ov_long c cv cl)
        have he : v.toList.isEmpty = false := Pl.empty_no (by omega)
        clear cv
        rcases Nat.lt_or_ge 1048576 s.size with d | d
        · clear cl
          go_enter Try.func8, Try.ntmps8
          go_wp2_with fail
          refine (wakes_walk _).mono ?_
          rintro e w1 ⟨rfl, hb1⟩
          have H1 := Pl.hid hb1
          clear hb1
          go_wp2_with fail
          refine (ov_known (r := ⟨#[]⟩) (c := 2) _ ⟨p1, p2⟩ hs hv H0.out.1 H0.out.2).mono ?_
          rintro e w2 ⟨rfl, hb2⟩
          have H2 := Pl.hid (H1.out.trans (hb2.mono H1.out.size))
          clear hb2 H1
          go_wp2_with fail
          go_ret
          exact ⟨rfl, H2.out⟩
        · rcases Int.lt_or_le 1048576 p with d2 | d2
          · clear cl
            go_enter Try.func8, Try.ntmps8
            go_wp2_with fail
            refine (wakes_walk _).mono ?_
            rintro e w1 ⟨rfl, hb1⟩
            have H1 := Pl.hid hb1
            clear hb1
            go_wp2_with fail
            refine (ov_known (r := ⟨#[]⟩) (c := 2) _ ⟨p1, p2⟩ hs hv H0.out.1 H0.out.2).mono ?_
            rintro e w2 ⟨rfl, hb2⟩
            have H2 := Pl.hid (H1.out.trans (hb2.mono H1.out.size))
            clear hb2 H1
            go_wp2_with fail
            go_ret
            exact ⟨rfl, H2.out⟩
          · have d3 : 1048576 < p + (v.size : Int) := by omega
            clear cl
            go_enter Try.func8, Try.ntmps8
            go_wp2_with fail
            refine (wakes_walk _).mono ?_
            rintro e w1 ⟨rfl, hb1⟩
            have H1 := Pl.hid hb1
            clear hb1
            go_wp2_with fail
            refine (ov_known (r := ⟨#[]⟩) (c := 2) _ ⟨p1, p2⟩ hs hv H0.out.1 H0.out.2).mono ?_
            rintro e w2 ⟨rfl, hb2⟩
            have H2 := Pl.hid (H1.out.trans (hb2.mono H1.out.size))
            clear hb2 H1
            go_wp2_with fail
            go_ret
            exact ⟨rfl, H2.out⟩
      · exact walk_ok s p v w c cv cl

set_option maxRecDepth 100000 in
theorem lifted (os : Os) (started : os.Started) (H : Type) (enc : TypeId × Value → H) (F : Stop.Interp) :
    ReturnsInHanded {} Try.checked os 8 .any ((OpenSpec.ofChange Rows.patchKeepsSpec).preRow enc Try.prog Try.f8 Rows.patchKeepsRow.domain false Rows.patchKeepsRow.laid)
      (((OpenSpec.ofChange Rows.patchKeepsSpec).at F).post enc Try.prog Try.f8 false true false false) := by
  refine Fr.lifted (C := Try.checked) (s := OpenSpec.ofChange Rows.patchKeepsSpec) (tb := 4) (by kernel_rfl) started (by kernel_rfl) Try.func8
    (witness_row_at (enc := enc) (C := Try.checked) false (World.holding Try.prog os ⟨#[], #[], []⟩) #[.string .empty, .int .i64 0, .string .empty] rfl (by kernel_rfl) (by kernel_rfl) (by kernel_rfl)
      (OpenSpec.preRow_of_cond 8 (x := ([.lit (.string []), .lit (.int .i64 0), .lit (.string [])], [], [])) (by kernel_rfl) (by kernel_rfl) (fun k hk => by cases hk) (by kernel_rfl) ⟨[], rfl, .nil, fun _ _ h => by cases h⟩))
    (by kernel_rfl) (by kernel_rfl) rfl rfl Try.underlying4 ?_ ?_
  · intro ds hd
    match ds, hd with
    | [d0, d1, d2], _ => rfl
  · intro W base args ds before hval hA hz hk hsz hL hsh
    rw [Try.params8] at hval hA hsz
    obtain ⟨v0, vs0, d0, ds0, p0, q0, hargs, rfl, rfl, h0, r0⟩ := trodAll_cons hA
    obtain ⟨v1, vs1, d1, ds1, p1, q1, rfl, rfl, rfl, h1, r1⟩ := trodAll_cons r0
    obtain ⟨v2, vs2, d2, ds2, p2, q2, rfl, rfl, rfl, h2, r2⟩ := trodAll_cons r1
    obtain ⟨rfl, rfl, rfl⟩ := trodAll_nil r2
    obtain rfl : args = #[v0, v1, v2] := by cases args; simp_all
    obtain ⟨a0, rfl, rfl, rfl, w0⟩ := open_string Try.underlying9 (hval 0 9 v0 rfl rfl) h0
    have z0 := Fr.str_size (sized_string hsz (j := 0) (t := 9) rfl rfl)
    obtain ⟨a1, rfl, rfl, rfl, w1⟩ := open_int Try.underlying2 (hval 1 2 v1 rfl rfl) h1
    obtain ⟨a2, rfl, rfl, rfl, w2⟩ := open_string Try.underlying9 (hval 2 9 v2 rfl rfl) h2
    have z2 := Fr.str_size (sized_string hsz (j := 2) (t := 9) rfl rfl)
    exact walk a0 a1 a2 z0 (bounds_i64 w1) z2 W

/-- the statement -/
theorem proved : Rows.PatchKeepsSaid :=
  OpenClaim.holds_of_cond 8 Try.f8 rfl rfl rfl rfl rfl rfl rfl ⟨rfl, rfl, rfl, rfl, rfl⟩ rfl rfl rfl rfl rfl (by kernel_rfl) Try.func8 (by kernel_rfl)
    (of_decide_eq_true (by kernel_rfl)) (by unfold Func.isWrapper; first | (rw [if_pos (by decide +kernel)]; kernel_rfl) | (rw [if_neg (by decide +kernel)]; exact ⟨rfl, rfl⟩))
    (fun os started H enc _ F => by rw [OpenClaim.pre_eq_preRow]; exact lifted os started H enc F)
#print axioms proved
end Go.Proofs.Ytfelkiflknjkdaa.patchKeeps
