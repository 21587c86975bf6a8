/- pantrylaw01.DigitBack: at every word and number the law returns true. The table of powers and the two errors of the library stand as they were laid. -/
import Derived.Test.YtenacajpgpkdnaaDoorDigJ
import Derived.Test.YtenacajpgpkdnaaDoorDoor
namespace Go.Proofs.YtenacajpgpkdnaaDoor.digitBack
open Go.ChangeShapes Go.WideShapes Go.ChangeAt Go.RowKit
open Go.ChangeMaps (open_string shut_string)

theorem none_v {l : List UInt8} (h : Pl.rI l = none) : Pl.rIv l = 0 ∧ Pl.rIc l = 10 := by
  unfold Pl.rIv Pl.rIc
  rw [h]
  exact ⟨rfl, rfl⟩
theorem some_v {l : List UInt8} {m : Int} (h : Pl.rI l = some m) : Pl.rIv l = m ∧ Pl.rIc l = 0 := by
  unfold Pl.rIv Pl.rIc
  rw [h]
  exact ⟨rfl, rfl⟩
theorem some_neg {l : List UInt8} {m : Int} (h : Pl.rI l = some m) (hm : m < 0) : Pl.rUv l = 0 ∧ Pl.rUc l = 10 := by
  unfold Pl.rUv Pl.rUc
  rw [Pl.rU_of_rI h, if_pos hm]
  exact ⟨rfl, rfl⟩
theorem some_pos {l : List UInt8} {m : Int} (h : Pl.rI l = some m) (hm : 0 ≤ m) : Pl.rUv l = m ∧ Pl.rUc l = 0 := by
  unfold Pl.rUv Pl.rUc
  rw [Pl.rU_of_rI h, if_neg (by omega)]
  refine ⟨?_, rfl⟩
  show ((m.toNat : Nat) : Int) = m
  omega

set_option maxRecDepth 20000 in
theorem walk (s : ByteArray) (n : Int) (hs : s.size ≤ 140737488351232) (hn : Pl.In64 n) (w : World) (hT : Mm.Tab w) (hE : Mm.Errs w) :
    Calls Tryd.prog 8 #[.string s, .int .i64 n] w fun e w' => e = .returned (.bool true) ∧ Below w.heap.size w w' := by
  have HE := Pl.hid hE
  have HT := Pl.hid hT
  have HN := Pl.hid hn
  have HR := Pl.hid (some_v (Pl.rI_itoa hn))
  have HZ : Hid ((Pl.B (Lib.itoa n)).size ≤ 140737488351232) := by
    show _ ≤ _
    rw [Pl.B_size]
    have := Pl.itoa_le n hn
    omega
  have HL : Hid (Pl.L (Pl.B (Lib.itoa n)) = Lib.itoa n) := Pl.L_B _
  clear hE hT hn
  go_enter Tryd.func8, Tryd.ntmps8
  go_wp2_with fail
  refine (wakes01_walk _ HT.out HE.out).mono ?_
  rintro e w1 ⟨rfl, hb⟩
  have H1 := Pl.hid hb
  clear hb
  go_wp2_with fail
  refine (text_walk _ _ HN.out (HT.out.on H1.out)).mono ?_
  rintro e w2 ⟨rfl, hb⟩
  have H2 := Pl.hid (H1.out.trans (hb.mono H1.out.size))
  clear hb H1
  go_wp2_with fail
  refine (int_known (v := n) (c := 0) _ HZ.out (HE.out.on H2.out) (by rw [HL.out]; exact HR.out.1) (by rw [HL.out]; exact HR.out.2)).mono ?_
  rintro e w3 ⟨rfl, hb⟩
  have H3 := Pl.hid (H2.out.trans (hb.mono H2.out.size))
  clear hb H2
  go_wp2_with fail
  rcases hr : Pl.rI (Pl.L s) with _ | m
  · have HV := Pl.hid (none_v hr)
    refine (int_known (v := 0) (c := 10) _ hs (HE.out.on H3.out) HV.out.1 HV.out.2).mono ?_
    clear hr
    rintro e w4 ⟨rfl, hb⟩
    have H4 := Pl.hid (H3.out.trans (hb.mono H3.out.size))
    clear hb H3
    go_wp2_with fail
    go_ret
    exact ⟨rfl, H4.out⟩
  · have HV := Pl.hid (some_v hr)
    have HM := Pl.hid (Pl.rI_bounds hr)
    have HI : Hid (Pl.B (Lib.itoa m) = s) := by
      show _ = _
      rw [Pl.itoa_rI hr, Pl.B_L]
    rcases Int.lt_or_le m 0 with hm | hm
    · have HU := Pl.hid (some_neg hr hm)
      refine (int_known (v := m) (c := 0) _ hs (HE.out.on H3.out) HV.out.1 HV.out.2).mono ?_
      clear hr
      rintro e w4 ⟨rfl, hb⟩
      have H4 := Pl.hid (H3.out.trans (hb.mono H3.out.size))
      clear hb H3
      go_wp2_with fail
      refine (uint_known (v := 0) (c := 10) _ hs (HE.out.on H4.out) HU.out.1 HU.out.2).mono ?_
      rintro e w5 ⟨rfl, hb⟩
      have H5 := Pl.hid (H4.out.trans (hb.mono H4.out.size))
      clear hb H4
      go_wp2_with fail
      refine (text_known (r := s) _ HM.out (HT.out.on H5.out) HI.out).mono ?_
      rintro e w6 ⟨rfl, hb⟩
      have H6 := Pl.hid (H5.out.trans (hb.mono H5.out.size))
      clear hb H5
      go_wp2_with fail
      go_ret
      exact ⟨rfl, H6.out⟩
    · have HU := Pl.hid (some_pos hr hm)
      have hm2 : m ≤ 9223372036854775807 := HM.out.2
      refine (int_known (v := m) (c := 0) _ hs (HE.out.on H3.out) HV.out.1 HV.out.2).mono ?_
      clear hr
      rintro e w4 ⟨rfl, hb⟩
      have H4 := Pl.hid (H3.out.trans (hb.mono H3.out.size))
      clear hb H3
      go_wp2_with fail
      refine (uint_known (v := m) (c := 0) _ hs (HE.out.on H4.out) HU.out.1 HU.out.2).mono ?_
      rintro e w5 ⟨rfl, hb⟩
      have H5 := Pl.hid (H4.out.trans (hb.mono H4.out.size))
      clear hb H4
      go_wp2_with fail
      refine (text_known (r := s) _ HM.out (HT.out.on H5.out) HI.out).mono ?_
      rintro e w6 ⟨rfl, hb⟩
      have H6 := Pl.hid (H5.out.trans (hb.mono H5.out.size))
      clear hb H5
      go_wp2_with fail
      go_ret
      exact ⟨rfl, H6.out⟩

set_option maxRecDepth 100000 in
theorem lifted (os : Os) (started : os.Started) (H : Type) (enc : TypeId × Value → H) (F : Stop.Interp) :
    ReturnsInHanded {} Tryd.checked os 8 .any ((OpenSpec.ofChange Rows.digitBackSpec).preRow enc Tryd.prog Tryd.f8 Rows.digitBackRow.domain false Rows.digitBackRow.laid)
      (((OpenSpec.ofChange Rows.digitBackSpec).at F).post enc Tryd.prog Tryd.f8 false true false false) := by
  refine Fr.lifted (C := Tryd.checked) (s := (OpenSpec.ofChange Rows.digitBackSpec)) (tb := 4) (by kernel_rfl) started (by kernel_rfl) Tryd.func8
    (Fr.witness_shaped (enc := enc) (C := Tryd.checked) (World.laidAll Tryd.prog os Rows.digitBackRow.laid) #[.string .empty, .int .i64 0] (World.laidAll_os _ _ _) (World.shaped_of_ZipB (by kernel_rfl) (by kernel_rfl)) (by kernel_rfl)
      (OpenSpec.preRow_of_cond 8 (x := ([.lit (.string []), .lit (.int .i64 0)], [], [])) (by kernel_rfl) (by kernel_rfl) (fun k hk => by cases hk) (by kernel_rfl) (laidMet_laidAll _ (by kernel_rfl) (by kernel_rfl))))
    (by kernel_rfl) (by kernel_rfl) rfl rfl Tryd.underlying4 ?_ ?_
  · intro ds hd
    match ds, hd with
    | [d0, d1], _ => rfl
  · intro W base args ds before hval hA hz hk hsz hL hsh
    rw [MakeChecks.laidMetH_plain _ _ _ (by kernel_rfl)] at hL
    have hT := Fr.tab hL
    have hE := Fr.errs hL.tail.tail.tail hL.tail.tail.tail.tail
    rw [Tryd.params8] at hval hA hsz
    obtain ⟨v0, vs0, d0, ds0, p0, q0, hargs, rfl, rfl, h0, r0⟩ := trodAll_cons hA
    obtain ⟨v1, vs1, d1, ds1, p1, q1, rfl, rfl, rfl, h1, r1⟩ := trodAll_cons r0
    obtain ⟨rfl, rfl, rfl⟩ := trodAll_nil r1
    obtain rfl : args = #[v0, v1] := by cases args; simp_all
    obtain ⟨a0, rfl, rfl, rfl, w0⟩ := open_string Tryd.underlying9 (hval 0 9 v0 rfl rfl) h0
    have z0 := Fr.str_size (sized_string hsz (j := 0) (t := 9) rfl rfl)
    obtain ⟨a1, rfl, rfl, rfl, w1⟩ := open_int Tryd.underlying2 (hval 1 2 v1 rfl rfl) h1
    exact walk a0 a1 z0 (bounds_i64 w1) W hT hE

theorem said : Rows.DigitBackSaid :=
  OpenClaim.holds_of_cond 8 Tryd.f8 rfl rfl rfl rfl rfl rfl rfl ⟨rfl, rfl, rfl, rfl, rfl⟩ rfl rfl rfl rfl rfl (by kernel_rfl) Tryd.func8 (by kernel_rfl)
    (of_decide_eq_true (by kernel_rfl)) (by unfold Func.isWrapper; first | (rw [if_pos (by decide +kernel)]; kernel_rfl) | (rw [if_neg (by decide +kernel)]; exact ⟨rfl, rfl⟩))
    (fun os started H enc _ F => by rw [OpenClaim.pre_eq_preRow]; exact lifted os started H enc F)

theorem plain (f : FuncId) (fn : Func) (hf : Tryd.pinned.checked.prog.funcNamed "pantry/pantrylaw01.DigitBack" = some f) (hfn : Tryd.pinned.checked.prog.funcs[f]? = some fn) :
    true = Tryd.pinned.checked.prog.looks [] ∧ ∀ (j : Nat) t, fn.params[j]? = some t → Tryd.pinned.checked.prog.wantsStandIn t = false := by
  obtain rfl : f = 8 := Option.some.inj ((show Tryd.prog.funcNamed "pantry/pantrylaw01.DigitBack" = some 8 by kernel_rfl).symm.trans hf) |>.symm
  obtain rfl : fn = Tryd.f8 := (Option.some.inj (Tryd.func8.symm.trans hfn)).symm
  refine ⟨by kernel_rfl, fun j t ht => ?_⟩
  rw [Tryd.params8] at ht
  have hm := Array.mem_of_getElem? ht
  have hall : ([9, 2].all fun u => !Tryd.prog.wantsStandIn u) = true := by kernel_rfl
  have hm' : t ∈ ([9, 2] : List TypeId) := by simpa using hm
  exact (show Tryd.prog.wantsStandIn t = false by simpa using List.all_eq_true.1 hall t hm')

/-- the statement: the tied card -/
theorem proved : Rows.DigitBackCardSaid :=
  Claim7.holds_tied_plain_at .later [] _ _ _ _ said (fun _ h => by cases h) (by kernel_rfl) (fun _ h => by cases h) digitBack_row_tie rfl ⟨rfl, rfl⟩ (by kernel_rfl) rfl plain (by kernel_rfl)
#print axioms proved
end Go.Proofs.YtenacajpgpkdnaaDoor.digitBack
