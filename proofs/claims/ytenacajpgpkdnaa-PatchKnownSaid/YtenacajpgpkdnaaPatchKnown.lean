/- pantrylaw08.PatchKnown: the law returns true. -/
import Derived.Test.YtenacajpgpkdnaaPatI
import Derived.Test.YtenacajpgpkdnaaPlainR
import Derived.Test.YtenacajpgpkdnaaFrame
namespace Go.Proofs.Ytenacajpgpkdnaa.patchKnown
open Go.ChangeShapes Go.WideShapes Go.ChangeAt Go.RowKit
open Go.ChangeMaps (open_string shut_string)

theorem bit_known {s : ByteArray} {i x c : Int} (w : World) (h : Pl.bitV (Pl.L s) i = x) (hc : Pl.bitC i = c) :
    Calls Try.prog 27 #[.string s, .int .i64 i] w fun e w' => e = .returned (.tuple #[.int .i64 x, .int .i64 c]) ∧ Below w.heap.size w w' := by
  rw [← h, ← hc]; exact bit_walk s i w
theorem slice_known {s r : ByteArray} {a b : Int} (w : World) (ha : Pl.In64 a) (hb : Pl.In64 b) (hs : s.size ≤ 9223372036854775807) (h : Pl.B (Pl.slcL (Pl.L s) a b) = r) :
    Calls Try.prog 24 #[.string s, .int .i64 a, .int .i64 b] w fun e w' => e = .returned (.string r) ∧ w = w' := by
  rw [← h]; exact slice_walk s a b w ha hb hs

set_option maxRecDepth 20000 in
theorem walk (w : World) :
    Calls Try.prog 10 #[] w fun e w' => e = .returned (.bool true) ∧ Below w.heap.size w w' := by
  obtain ⟨O, hO⟩ : ∃ O, O = Pl.ovS ⟨#[]⟩ 1048575 ⟨#[120]⟩ := ⟨_, rfl⟩
  have hz : (O.size : Int) = 1048576 := by
    rw [hO, (Pl.ov_ok (by decide) (by decide) (by decide)).1, Pl.B_size, Pl.ovL_length]
    decide
  have HO := Pl.hid hO.symm
  clear hO
  go_enter Try.func10, Try.ntmps10
  go_wp2_with fail
  refine (wakes_walk _).mono ?_
  rintro e w0 ⟨rfl, hb0⟩
  have HB0 := Pl.hid hb0
  clear hb0
  go_wp2_with fail
  refine (slice_known (r := ⟨#[101, 108, 108]⟩) _ (by unfold Pl.In64; decide) (by unfold Pl.In64; decide) (by decide) (by decide +kernel)).mono ?_
  rintro e w' ⟨rfl, rfl⟩
  go_wp2_with fail
  refine (slice_known (r := ⟨#[108, 108, 111]⟩) _ (by unfold Pl.In64; decide) (by unfold Pl.In64; decide) (by decide) (by decide +kernel)).mono ?_
  rintro e w' ⟨rfl, rfl⟩
  go_wp2_with fail
  refine (slice_known (r := ⟨#[]⟩) _ (by unfold Pl.In64; decide) (by unfold Pl.In64; decide) (by decide) (by decide +kernel)).mono ?_
  rintro e w' ⟨rfl, rfl⟩
  go_wp2_with fail
  refine (slice_known (r := ⟨#[104, 101, 108, 108, 111]⟩) _ (by unfold Pl.In64; decide) (by unfold Pl.In64; decide) (by decide) (by decide +kernel)).mono ?_
  rintro e w' ⟨rfl, rfl⟩
  go_wp2_with fail
  refine (ov_known (r := ⟨#[104, 101, 108, 108, 111, 33]⟩) (c := 0) _ (by unfold Pl.In64; decide) (by decide) (by decide) (by decide +kernel) (by decide +kernel)).mono ?_
  rintro e w1 ⟨rfl, hb1⟩
  have HB1 := Pl.hid (HB0.out.trans (hb1.mono HB0.out.size))
  clear hb1 HB0
  go_wp2_with fail
  refine (ov_known (r := ⟨#[104, 101, 108, 108, 111, 0, 0, 120]⟩) (c := 0) _ (by unfold Pl.In64; decide) (by decide) (by decide) (by decide +kernel) (by decide +kernel)).mono ?_
  rintro e w2 ⟨rfl, hb2⟩
  have HB2 := Pl.hid (HB1.out.trans (hb2.mono HB1.out.size))
  clear hb2 HB1
  go_wp2_with fail
  refine (ov_known (r := ⟨#[]⟩) (c := 3) _ (by unfold Pl.In64; decide) (by decide) (by decide) (by decide +kernel) (by decide +kernel)).mono ?_
  rintro e w3 ⟨rfl, hb3⟩
  have HB3 := Pl.hid (HB2.out.trans (hb3.mono HB2.out.size))
  clear hb3 HB2
  go_wp2_with fail
  refine (ov_known (r := ⟨#[104, 101, 108, 108, 111]⟩) (c := 0) _ (by unfold Pl.In64; decide) (by decide) (by decide) (by decide +kernel) (by decide +kernel)).mono ?_
  rintro e w4 ⟨rfl, hb4⟩
  have HB4 := Pl.hid (HB3.out.trans (hb4.mono HB3.out.size))
  clear hb4 HB3
  go_wp2_with fail
  refine (ov_known (r := ⟨#[]⟩) (c := 2) _ (by unfold Pl.In64; decide) (by decide) (by decide) (Pl.ov_long (by decide) (by decide) (by decide)).1 (Pl.ov_long (by decide) (by decide) (by decide)).2).mono ?_
  rintro e w5 ⟨rfl, hb5⟩
  have HB5 := Pl.hid (HB4.out.trans (hb5.mono HB4.out.size))
  clear hb5 HB4
  go_wp2_with fail
  refine (ov_known (r := O) (c := 0) _ (by unfold Pl.In64; decide) (by decide) (by decide) HO.out (Pl.ov_ok (by decide) (by decide) (by decide)).2).mono ?_
  rintro e w6 ⟨rfl, hb6⟩
  have HB6 := Pl.hid (HB5.out.trans (hb6.mono HB5.out.size))
  clear hb6 HB5
  go_wp2_with fail
  refine (ov_known (r := ⟨#[]⟩) (c := 2) _ (by unfold Pl.In64; decide) (by decide) (by decide) (Pl.ov_long (by decide) (by decide) (by decide)).1 (Pl.ov_long (by decide) (by decide) (by decide)).2).mono ?_
  rintro e w7 ⟨rfl, hb7⟩
  have HB7 := Pl.hid (HB6.out.trans (hb7.mono HB6.out.size))
  clear hb7 HB6
  go_wp2_with fail
  obtain ⟨wA, hA⟩ : ∃ wA, wA = w7.alloc (Obj.cells #[Value.int IntKind.i64 0, Value.int IntKind.i64 1, Value.int IntKind.i64 1, Value.int IntKind.i64 0,
          Value.int IntKind.i64 0, Value.int IntKind.i64 0, Value.int IntKind.i64 0, Value.int IntKind.i64 1, Value.int IntKind.i64 0] 3) := ⟨_, rfl⟩
  have hsz : wA.heap.size = w7.heap.size + 1 := by rw [hA]; simp
  have HT : Hid (∀ q : Nat, q < 9 → wA.cell? ⟨w7.heap.size, q, none⟩ = some (.int .i64 (Pl.bitV (Pl.L ⟨#[97]⟩) q))) := by
    intro q hq
    have hc : q = 0 ∨ q = 1 ∨ q = 2 ∨ q = 3 ∨ q = 4 ∨ q = 5 ∨ q = 6 ∨ q = 7 ∨ q = 8 := by omega
    rw [hA]
    rcases hc with rfl | rfl | rfl | rfl | rfl | rfl | rfl | rfl | rfl <;> rw [World.cell?_alloc_mark] <;> exact congrArg some (congrArg (Value.int .i64) (by decide +kernel))
  have HBA := Pl.hid (HB7.out.alloc HB7.out.size (Obj.cells #[Value.int IntKind.i64 0, Value.int IntKind.i64 1, Value.int IntKind.i64 1, Value.int IntKind.i64 0,
          Value.int IntKind.i64 0, Value.int IntKind.i64 0, Value.int IntKind.i64 0, Value.int IntKind.i64 1, Value.int IntKind.i64 0] 3))
  rw [← hA] at HBA ⊢
  have HS := Pl.hid hsz
  clear hA hsz HB7 hz
  go_loopw [115] (fun i wr => ∃ q : Nat, q ≤ 9 ∧ i = .int .i64 q ∧ Below wA.heap.size wA wr) (fun i _ => 9 - (intOf i).toNat)
  case atStart => exact ⟨0, Nat.zero_le _, rfl, Below.refl _ _⟩
  case round =>
    obtain ⟨q, hq, rfl, hbel⟩ := hrel
    have HBel := Pl.hid hbel
    by_cases hlt : q < 9
    · obtain ⟨t, ht⟩ : ∃ t, t = Pl.bitV (Pl.L ⟨#[97]⟩) q := ⟨_, rfl⟩
      have HV := Pl.hid ht.symm
      have HC := Pl.hid (Pl.bitC_in (i := (q : Int)) ⟨by omega, by omega⟩)
      have hcell := (hbel.cell (p := ⟨w7.heap.size, q, none⟩) (by rw [HS.out]; exact Nat.lt_succ_self _)).trans (HT.out q hlt)
      rw [← ht] at hcell
      clear hbel ht
      have hc : q = 0 ∨ q = 1 ∨ q = 2 ∨ q = 3 ∨ q = 4 ∨ q = 5 ∨ q = 6 ∨ q = 7 ∨ q = 8 := by omega
      clear hq hlt
      rcases hc with rfl | rfl | rfl | rfl | rfl | rfl | rfl | rfl | rfl
      all_goals
        go_wp2_with fail
        refine (bit_known (x := t) (c := 0) _ HV.out HC.out).mono ?_
        rintro e wb ⟨rfl, hbb⟩
        have HB := Pl.hid (HBel.out.trans (hbb.mono HBel.out.size))
        clear hbb HBel
        go_wp2_with fail
        go_roundw
        case rel => first | exact ⟨1, by decide, by rfl, HB.out⟩ | exact ⟨2, by decide, by rfl, HB.out⟩ | exact ⟨3, by decide, by rfl, HB.out⟩ | exact ⟨4, by decide, by rfl, HB.out⟩ | exact ⟨5, by decide, by rfl, HB.out⟩ | exact ⟨6, by decide, by rfl, HB.out⟩ | exact ⟨7, by decide, by rfl, HB.out⟩ | exact ⟨8, by decide, by rfl, HB.out⟩ | exact ⟨9, by decide, by rfl, HB.out⟩
        case measure => simp [intOf]
    · have HB8 := Pl.hid (HBA.out.trans (hbel.mono HBA.out.size))
      clear hbel HBel HBA HT
      go_wp2_with fail
      refine (bit_known (x := 0) (c := 3) _ (by decide +kernel) (by decide +kernel)).mono ?_
      rintro e w9 ⟨rfl, hb9⟩
      have HB9 := Pl.hid (HB8.out.trans (hb9.mono HB8.out.size))
      clear hb9 HB8
      go_wp2_with fail
      refine (bit_known (x := 0) (c := 3) _ (by decide +kernel) (by decide +kernel)).mono ?_
      rintro e w10 ⟨rfl, hb10⟩
      have HB10 := Pl.hid (HB9.out.trans (hb10.mono HB9.out.size))
      clear hb10 HB9
      go_wp2_with fail
      refine (sb_known (r := ⟨#[0, 128]⟩) (x := 0) (c := 0) _ (by decide) (by decide +kernel) (by decide +kernel) (by decide +kernel)).mono ?_
      rintro e w11 ⟨rfl, hb11⟩
      have HB11 := Pl.hid (HB10.out.trans (hb11.mono HB10.out.size))
      clear hb11 HB10
      go_wp2_with fail
      refine (sb_known (r := ⟨#[]⟩) (x := 0) (c := 3) _ (by decide) (by decide +kernel) (by decide +kernel) (by decide +kernel)).mono ?_
      rintro e w12 ⟨rfl, hb12⟩
      have HB12 := Pl.hid (HB11.out.trans (hb12.mono HB11.out.size))
      clear hb12 HB11
      go_wp2_with fail
      refine (sb_known (r := ⟨#[]⟩) (x := 0) (c := 2) _ (by decide) (by decide +kernel) (by decide +kernel) (by decide +kernel)).mono ?_
      rintro e w13 ⟨rfl, hb13⟩
      have HB13 := Pl.hid (HB12.out.trans (hb13.mono HB12.out.size))
      clear hb13 HB12
      go_wp2_with fail
      refine (ones_known (n := 3) _ (by unfold Pl.In64; decide) (by unfold Pl.In64; decide) (by decide) (by decide +kernel)).mono ?_
      rintro e w14 ⟨rfl, hb14⟩
      have HB14 := Pl.hid (HB13.out.trans (hb14.mono HB13.out.size))
      clear hb14 HB13
      go_wp2_with fail
      refine (ones_known (n := 4) _ (by unfold Pl.In64; decide) (by unfold Pl.In64; decide) (by decide) (by decide +kernel)).mono ?_
      rintro e w15 ⟨rfl, hb15⟩
      have HB15 := Pl.hid (HB14.out.trans (hb15.mono HB14.out.size))
      clear hb15 HB14
      go_wp2_with fail
      go_ret
      exact ⟨rfl, HB15.out⟩
set_option maxRecDepth 100000 in
theorem lifted (os : Os) (started : os.Started) (H : Type) (enc : TypeId × Value → H) (F : Stop.Interp) :
    ReturnsInHanded {} Try.checked os 10 .any ((OpenSpec.ofChange Rows.patchKnownSpec).preRow enc Try.prog Try.f10 Rows.patchKnownRow.domain false Rows.patchKnownRow.laid)
      (((OpenSpec.ofChange Rows.patchKnownSpec).at F).post enc Try.prog Try.f10 false true false false) := by
  refine Fr.lifted (C := Try.checked) (s := OpenSpec.ofChange Rows.patchKnownSpec) (tb := 4) (by kernel_rfl) started (by kernel_rfl) Try.func10
    (witness_row_at (enc := enc) (C := Try.checked) false (World.holding Try.prog os ⟨#[], #[], []⟩) #[] rfl (by kernel_rfl) (by kernel_rfl) (by kernel_rfl)
      (OpenSpec.preRow_of_cond 8 (x := ([], [], [])) (by kernel_rfl) (by kernel_rfl) (fun k hk => by cases hk) (by kernel_rfl) ⟨[], rfl, .nil, fun _ _ h => by cases h⟩))
    (by kernel_rfl) (by kernel_rfl) rfl rfl Try.underlying4 ?_ ?_
  · intro ds hd
    match ds, hd with
    | [], _ => rfl
  · intro W base args ds before hval hA hz hk hsz hL hsh
    rw [Try.params10] at hval hA hsz
    obtain ⟨hargs, rfl, rfl⟩ := trodAll_none hA
    obtain rfl : args = #[] := by cases args; simp_all
    exact walk   W

/-- the statement -/
theorem proved : Rows.PatchKnownSaid :=
  OpenClaim.holds_of_cond 10 Try.f10 rfl rfl rfl rfl rfl rfl rfl ⟨rfl, rfl, rfl, rfl, rfl⟩ rfl rfl rfl rfl rfl (by kernel_rfl) Try.func10 (by kernel_rfl)
    (of_decide_eq_true (by kernel_rfl)) (by unfold Func.isWrapper; first | (rw [if_pos (by decide +kernel)]; kernel_rfl) | (rw [if_neg (by decide +kernel)]; exact ⟨rfl, rfl⟩))
    (fun os started H enc _ F => by rw [OpenClaim.pre_eq_preRow]; exact lifted os started H enc F)
#print axioms proved
end Go.Proofs.Ytenacajpgpkdnaa.patchKnown
