/- pantrylaw01.DigitKnown: the law returns true. The table of powers and the two errors of the library stand as they were laid. -/
import Derived.Test.YtenacajpgpkdnaaDoorDigK
import Derived.Test.YtenacajpgpkdnaaDoorDoor
namespace Go.Proofs.YtenacajpgpkdnaaDoor.digitKnown
open Go.ChangeShapes Go.WideShapes Go.ChangeAt Go.RowKit

def rowsA : List Int := [0, -1, 5, 0, 5, 1, 2, 5, 1, 3, -2, -1, 5, 3, 5, -100, 1, 5, 0, 2, 3, 100, 5, 3, 5, 3, 2, 5, 0, 0, 5, 9, 5, 0, 0, 0, -6, 5, 0, 0, 0, -1, 0, 0, 0, -9223372036854775808, 9223372036854775807, 5, 0, 5, 0, 0, -3, 0, 0]
def rowsB : List Int := [0, 3, 0, -1, 3, 2, 3, 3, -1, -4, 3, -1, 0, 0, -1, -9223372036854775808, 3, -1]
theorem cell_ints (w : World) (zs : List Int) (t : TypeId) (k : Nat) (h : k < zs.length) : (w.alloc (.cells (zs.map fun z => Value.int .i64 z).toArray t)).cell? ⟨w.heap.size, k, none⟩ = some (.int .i64 (zs.getD k 0)) := by
  rw [World.cell?_alloc_mark]
  simp [List.getD_eq_getElem?_getD, List.getElem?_eq_getElem h]

set_option maxHeartbeats 4000000 in
set_option maxRecDepth 20000 in
theorem walk (w : World) (hT : Mm.Tab w) (hE : Mm.Errs w) :
    Calls Tryd.prog 11 #[] w fun e w' => e = .returned (.bool true) ∧ Below w.heap.size w w' := by
  have HE := Pl.hid hE
  have HT := Pl.hid hT
  have H0 : Hid (Below w.heap.size w w) := Below.refl _ _
  clear hE hT
  go_enter Tryd.func11, Tryd.ntmps11
  go_wp2_with fail
  refine (wakes01_walk _ HT.out HE.out).mono ?_
  rintro e w1 ⟨rfl, hb⟩
  have H1 := Pl.hid (H0.out.trans (hb.mono H0.out.size))
  clear hb H0
  go_wp2_with fail
  refine (refused_walk _ (HE.out.on H1.out)).mono ?_
  rintro e w2 ⟨rfl, hb⟩
  have H2 := Pl.hid (H1.out.trans (hb.mono H1.out.size))
  clear hb H1
  go_wp2_with fail
  refine (int_known (v := 9223372036854775807) (c := 0) _ (by decide) (HE.out.on H2.out) (by decide +kernel) (by decide +kernel)).mono ?_
  rintro e w3 ⟨rfl, hb⟩
  have H3 := Pl.hid (H2.out.trans (hb.mono H2.out.size))
  clear hb H2
  go_wp2_with fail
  refine (int_known (v := -9223372036854775808) (c := 0) _ (by decide) (HE.out.on H3.out) (by decide +kernel) (by decide +kernel)).mono ?_
  rintro e w4 ⟨rfl, hb⟩
  have H4 := Pl.hid (H3.out.trans (hb.mono H3.out.size))
  clear hb H3
  go_wp2_with fail
  refine (uint_known (v := 18446744073709551615) (c := 0) _ (by decide) (HE.out.on H4.out) (by decide +kernel) (by decide +kernel)).mono ?_
  rintro e w5 ⟨rfl, hb⟩
  have H5 := Pl.hid (H4.out.trans (hb.mono H4.out.size))
  clear hb H4
  go_wp2_with fail
  refine (text_known (n := -9223372036854775808) (r := ⟨#[45, 57, 50, 50, 51, 51, 55, 50, 48, 51, 54, 56, 53, 52, 55, 55, 53, 56, 48, 56]⟩) _ (by unfold Pl.In64; decide) (HT.out.on H5.out) (Pl.itoa_known (l := [45, 57, 50, 50, 51, 51, 55, 50, 48, 51, 54, 56, 53, 52, 55, 55, 53, 56, 48, 56]) (by decide +kernel))).mono ?_
  rintro e w6 ⟨rfl, hb⟩
  have H6 := Pl.hid (H5.out.trans (hb.mono H5.out.size))
  clear hb H5
  go_wp2_with fail
  refine (text_known (n := 0) (r := ⟨#[48]⟩) _ (by unfold Pl.In64; decide) (HT.out.on H6.out) (Pl.itoa_known (l := [48]) (by decide +kernel))).mono ?_
  rintro e w7 ⟨rfl, hb⟩
  have H7 := Pl.hid (H6.out.trans (hb.mono H6.out.size))
  clear hb H6
  go_wp2_with fail
  refine (add_known (v := 0) (c := 11) _ (by unfold Pl.In64; decide) (by unfold Pl.In64; decide) (by decide +kernel) (by decide +kernel)).mono ?_
  rintro e w8 ⟨rfl, rfl⟩
  go_wp2_with fail
  refine (add_known (v := 0) (c := 11) _ (by unfold Pl.In64; decide) (by unfold Pl.In64; decide) (by decide +kernel) (by decide +kernel)).mono ?_
  rintro e w9 ⟨rfl, rfl⟩
  go_wp2_with fail
  refine (add_known (v := -1) (c := 0) _ (by unfold Pl.In64; decide) (by unfold Pl.In64; decide) (by decide +kernel) (by decide +kernel)).mono ?_
  rintro e w10 ⟨rfl, rfl⟩
  go_wp2_with fail
  generalize hww8 : World.alloc w7 _ = w8
  have hw2 : World.alloc w7 (.cells (rowsA.map fun z => Value.int .i64 z).toArray 67) = w8 := hww8
  have HC : Hid (∀ j, j < 55 → w8.cell? ⟨w7.heap.size, j, none⟩ = some (.int .i64 (rowsA.getD j 0))) := fun j hj => by rw [← hw2]; exact cell_ints _ _ _ j hj
  have HS : Hid (w8.heap.size = w7.heap.size + 1) := by show _ = _; rw [← hw2]; simp
  have HB : Hid (Below w.heap.size w w8) := by rw [← hw2]; exact H7.out.alloc H7.out.size _
  have HZ : Hid (w.heap.size ≤ w7.heap.size) := H7.out.size
  clear hww8 hw2
  go_loopw [107] (fun i wr => ∃ k : Nat, k ≤ 11 ∧ i = .int .i64 k ∧ Hid (Below (w7.heap.size + 1) w8 wr)) (fun i _ => 11 - (intOf i).toNat)
  case atStart => exact ⟨0, by decide, rfl, Below.refl _ _⟩
  case round =>
    obtain ⟨k, hk, rfl, HR⟩ := hrel
    have hks : k = 0 ∨ k = 1 ∨ k = 2 ∨ k = 3 ∨ k = 4 ∨ k = 5 ∨ k = 6 ∨ k = 7 ∨ k = 8 ∨ k = 9 ∨ k = 10 ∨ k = 11 := by omega
    have HZ1 : Hid (w7.heap.size + 1 ≤ wr.heap.size) := by show _ ≤ _; have := HR.out.size; have := HS.out; omega
    clear hk
    rcases hks with rfl | rfl | rfl | rfl | rfl | rfl | rfl | rfl | rfl | rfl | rfl | rfl
    · have hc0 : wr.cell? ⟨w7.heap.size, 0, none⟩ = some (.int .i64 (0)) := ((HR.out.cell (p := ⟨w7.heap.size, 0, none⟩) (Nat.lt_succ_self _)).trans (HC.out 0 (by decide))).trans (by rfl)
      have hc1 : wr.cell? ⟨w7.heap.size, 1, none⟩ = some (.int .i64 (-1)) := ((HR.out.cell (p := ⟨w7.heap.size, 1, none⟩) (Nat.lt_succ_self _)).trans (HC.out 1 (by decide))).trans (by rfl)
      have hc2 : wr.cell? ⟨w7.heap.size, 2, none⟩ = some (.int .i64 (5)) := ((HR.out.cell (p := ⟨w7.heap.size, 2, none⟩) (Nat.lt_succ_self _)).trans (HC.out 2 (by decide))).trans (by rfl)
      have hc3 : wr.cell? ⟨w7.heap.size, 3, none⟩ = some (.int .i64 (0)) := ((HR.out.cell (p := ⟨w7.heap.size, 3, none⟩) (Nat.lt_succ_self _)).trans (HC.out 3 (by decide))).trans (by rfl)
      have hc4 : wr.cell? ⟨w7.heap.size, 4, none⟩ = some (.int .i64 (5)) := ((HR.out.cell (p := ⟨w7.heap.size, 4, none⟩) (Nat.lt_succ_self _)).trans (HC.out 4 (by decide))).trans (by rfl)
      go_wp2_with fail
      refine (span_known (f := 0) (t := 5) _ (by unfold Pl.In64; decide) (by unfold Pl.In64; decide) (by unfold Pl.In64; decide) (by decide +kernel) (by decide +kernel)).mono ?_
      rintro e w9 ⟨rfl, rfl⟩
      go_wp2_with fail
      go_roundw
      case rel => exact ⟨1, by decide, by rfl, HR.out.alloc HZ1.out _⟩
      case measure => simp [intOf]
    · have hc0 : wr.cell? ⟨w7.heap.size, 5, none⟩ = some (.int .i64 (1)) := ((HR.out.cell (p := ⟨w7.heap.size, 5, none⟩) (Nat.lt_succ_self _)).trans (HC.out 5 (by decide))).trans (by rfl)
      have hc1 : wr.cell? ⟨w7.heap.size, 6, none⟩ = some (.int .i64 (2)) := ((HR.out.cell (p := ⟨w7.heap.size, 6, none⟩) (Nat.lt_succ_self _)).trans (HC.out 6 (by decide))).trans (by rfl)
      have hc2 : wr.cell? ⟨w7.heap.size, 7, none⟩ = some (.int .i64 (5)) := ((HR.out.cell (p := ⟨w7.heap.size, 7, none⟩) (Nat.lt_succ_self _)).trans (HC.out 7 (by decide))).trans (by rfl)
      have hc3 : wr.cell? ⟨w7.heap.size, 8, none⟩ = some (.int .i64 (1)) := ((HR.out.cell (p := ⟨w7.heap.size, 8, none⟩) (Nat.lt_succ_self _)).trans (HC.out 8 (by decide))).trans (by rfl)
      have hc4 : wr.cell? ⟨w7.heap.size, 9, none⟩ = some (.int .i64 (3)) := ((HR.out.cell (p := ⟨w7.heap.size, 9, none⟩) (Nat.lt_succ_self _)).trans (HC.out 9 (by decide))).trans (by rfl)
      go_wp2_with fail
      refine (span_known (f := 1) (t := 3) _ (by unfold Pl.In64; decide) (by unfold Pl.In64; decide) (by unfold Pl.In64; decide) (by decide +kernel) (by decide +kernel)).mono ?_
      rintro e w9 ⟨rfl, rfl⟩
      go_wp2_with fail
      go_roundw
      case rel => exact ⟨2, by decide, by rfl, HR.out.alloc HZ1.out _⟩
      case measure => simp [intOf]
    · have hc0 : wr.cell? ⟨w7.heap.size, 10, none⟩ = some (.int .i64 (-2)) := ((HR.out.cell (p := ⟨w7.heap.size, 10, none⟩) (Nat.lt_succ_self _)).trans (HC.out 10 (by decide))).trans (by rfl)
      have hc1 : wr.cell? ⟨w7.heap.size, 11, none⟩ = some (.int .i64 (-1)) := ((HR.out.cell (p := ⟨w7.heap.size, 11, none⟩) (Nat.lt_succ_self _)).trans (HC.out 11 (by decide))).trans (by rfl)
      have hc2 : wr.cell? ⟨w7.heap.size, 12, none⟩ = some (.int .i64 (5)) := ((HR.out.cell (p := ⟨w7.heap.size, 12, none⟩) (Nat.lt_succ_self _)).trans (HC.out 12 (by decide))).trans (by rfl)
      have hc3 : wr.cell? ⟨w7.heap.size, 13, none⟩ = some (.int .i64 (3)) := ((HR.out.cell (p := ⟨w7.heap.size, 13, none⟩) (Nat.lt_succ_self _)).trans (HC.out 13 (by decide))).trans (by rfl)
      have hc4 : wr.cell? ⟨w7.heap.size, 14, none⟩ = some (.int .i64 (5)) := ((HR.out.cell (p := ⟨w7.heap.size, 14, none⟩) (Nat.lt_succ_self _)).trans (HC.out 14 (by decide))).trans (by rfl)
      go_wp2_with fail
      refine (span_known (f := 3) (t := 5) _ (by unfold Pl.In64; decide) (by unfold Pl.In64; decide) (by unfold Pl.In64; decide) (by decide +kernel) (by decide +kernel)).mono ?_
      rintro e w9 ⟨rfl, rfl⟩
      go_wp2_with fail
      go_roundw
      case rel => exact ⟨3, by decide, by rfl, HR.out.alloc HZ1.out _⟩
      case measure => simp [intOf]
    · have hc0 : wr.cell? ⟨w7.heap.size, 15, none⟩ = some (.int .i64 (-100)) := ((HR.out.cell (p := ⟨w7.heap.size, 15, none⟩) (Nat.lt_succ_self _)).trans (HC.out 15 (by decide))).trans (by rfl)
      have hc1 : wr.cell? ⟨w7.heap.size, 16, none⟩ = some (.int .i64 (1)) := ((HR.out.cell (p := ⟨w7.heap.size, 16, none⟩) (Nat.lt_succ_self _)).trans (HC.out 16 (by decide))).trans (by rfl)
      have hc2 : wr.cell? ⟨w7.heap.size, 17, none⟩ = some (.int .i64 (5)) := ((HR.out.cell (p := ⟨w7.heap.size, 17, none⟩) (Nat.lt_succ_self _)).trans (HC.out 17 (by decide))).trans (by rfl)
      have hc3 : wr.cell? ⟨w7.heap.size, 18, none⟩ = some (.int .i64 (0)) := ((HR.out.cell (p := ⟨w7.heap.size, 18, none⟩) (Nat.lt_succ_self _)).trans (HC.out 18 (by decide))).trans (by rfl)
      have hc4 : wr.cell? ⟨w7.heap.size, 19, none⟩ = some (.int .i64 (2)) := ((HR.out.cell (p := ⟨w7.heap.size, 19, none⟩) (Nat.lt_succ_self _)).trans (HC.out 19 (by decide))).trans (by rfl)
      go_wp2_with fail
      refine (span_known (f := 0) (t := 2) _ (by unfold Pl.In64; decide) (by unfold Pl.In64; decide) (by unfold Pl.In64; decide) (by decide +kernel) (by decide +kernel)).mono ?_
      rintro e w9 ⟨rfl, rfl⟩
      go_wp2_with fail
      go_roundw
      case rel => exact ⟨4, by decide, by rfl, HR.out.alloc HZ1.out _⟩
      case measure => simp [intOf]
    · have hc0 : wr.cell? ⟨w7.heap.size, 20, none⟩ = some (.int .i64 (3)) := ((HR.out.cell (p := ⟨w7.heap.size, 20, none⟩) (Nat.lt_succ_self _)).trans (HC.out 20 (by decide))).trans (by rfl)
      have hc1 : wr.cell? ⟨w7.heap.size, 21, none⟩ = some (.int .i64 (100)) := ((HR.out.cell (p := ⟨w7.heap.size, 21, none⟩) (Nat.lt_succ_self _)).trans (HC.out 21 (by decide))).trans (by rfl)
      have hc2 : wr.cell? ⟨w7.heap.size, 22, none⟩ = some (.int .i64 (5)) := ((HR.out.cell (p := ⟨w7.heap.size, 22, none⟩) (Nat.lt_succ_self _)).trans (HC.out 22 (by decide))).trans (by rfl)
      have hc3 : wr.cell? ⟨w7.heap.size, 23, none⟩ = some (.int .i64 (3)) := ((HR.out.cell (p := ⟨w7.heap.size, 23, none⟩) (Nat.lt_succ_self _)).trans (HC.out 23 (by decide))).trans (by rfl)
      have hc4 : wr.cell? ⟨w7.heap.size, 24, none⟩ = some (.int .i64 (5)) := ((HR.out.cell (p := ⟨w7.heap.size, 24, none⟩) (Nat.lt_succ_self _)).trans (HC.out 24 (by decide))).trans (by rfl)
      go_wp2_with fail
      refine (span_known (f := 3) (t := 5) _ (by unfold Pl.In64; decide) (by unfold Pl.In64; decide) (by unfold Pl.In64; decide) (by decide +kernel) (by decide +kernel)).mono ?_
      rintro e w9 ⟨rfl, rfl⟩
      go_wp2_with fail
      go_roundw
      case rel => exact ⟨5, by decide, by rfl, HR.out.alloc HZ1.out _⟩
      case measure => simp [intOf]
    · have hc0 : wr.cell? ⟨w7.heap.size, 25, none⟩ = some (.int .i64 (3)) := ((HR.out.cell (p := ⟨w7.heap.size, 25, none⟩) (Nat.lt_succ_self _)).trans (HC.out 25 (by decide))).trans (by rfl)
      have hc1 : wr.cell? ⟨w7.heap.size, 26, none⟩ = some (.int .i64 (2)) := ((HR.out.cell (p := ⟨w7.heap.size, 26, none⟩) (Nat.lt_succ_self _)).trans (HC.out 26 (by decide))).trans (by rfl)
      have hc2 : wr.cell? ⟨w7.heap.size, 27, none⟩ = some (.int .i64 (5)) := ((HR.out.cell (p := ⟨w7.heap.size, 27, none⟩) (Nat.lt_succ_self _)).trans (HC.out 27 (by decide))).trans (by rfl)
      have hc3 : wr.cell? ⟨w7.heap.size, 28, none⟩ = some (.int .i64 (0)) := ((HR.out.cell (p := ⟨w7.heap.size, 28, none⟩) (Nat.lt_succ_self _)).trans (HC.out 28 (by decide))).trans (by rfl)
      have hc4 : wr.cell? ⟨w7.heap.size, 29, none⟩ = some (.int .i64 (0)) := ((HR.out.cell (p := ⟨w7.heap.size, 29, none⟩) (Nat.lt_succ_self _)).trans (HC.out 29 (by decide))).trans (by rfl)
      go_wp2_with fail
      refine (span_known (f := 0) (t := 0) _ (by unfold Pl.In64; decide) (by unfold Pl.In64; decide) (by unfold Pl.In64; decide) (by decide +kernel) (by decide +kernel)).mono ?_
      rintro e w9 ⟨rfl, rfl⟩
      go_wp2_with fail
      go_roundw
      case rel => exact ⟨6, by decide, by rfl, HR.out.alloc HZ1.out _⟩
      case measure => simp [intOf]
    · have hc0 : wr.cell? ⟨w7.heap.size, 30, none⟩ = some (.int .i64 (5)) := ((HR.out.cell (p := ⟨w7.heap.size, 30, none⟩) (Nat.lt_succ_self _)).trans (HC.out 30 (by decide))).trans (by rfl)
      have hc1 : wr.cell? ⟨w7.heap.size, 31, none⟩ = some (.int .i64 (9)) := ((HR.out.cell (p := ⟨w7.heap.size, 31, none⟩) (Nat.lt_succ_self _)).trans (HC.out 31 (by decide))).trans (by rfl)
      have hc2 : wr.cell? ⟨w7.heap.size, 32, none⟩ = some (.int .i64 (5)) := ((HR.out.cell (p := ⟨w7.heap.size, 32, none⟩) (Nat.lt_succ_self _)).trans (HC.out 32 (by decide))).trans (by rfl)
      have hc3 : wr.cell? ⟨w7.heap.size, 33, none⟩ = some (.int .i64 (0)) := ((HR.out.cell (p := ⟨w7.heap.size, 33, none⟩) (Nat.lt_succ_self _)).trans (HC.out 33 (by decide))).trans (by rfl)
      have hc4 : wr.cell? ⟨w7.heap.size, 34, none⟩ = some (.int .i64 (0)) := ((HR.out.cell (p := ⟨w7.heap.size, 34, none⟩) (Nat.lt_succ_self _)).trans (HC.out 34 (by decide))).trans (by rfl)
      go_wp2_with fail
      refine (span_known (f := 0) (t := 0) _ (by unfold Pl.In64; decide) (by unfold Pl.In64; decide) (by unfold Pl.In64; decide) (by decide +kernel) (by decide +kernel)).mono ?_
      rintro e w9 ⟨rfl, rfl⟩
      go_wp2_with fail
      go_roundw
      case rel => exact ⟨7, by decide, by rfl, HR.out.alloc HZ1.out _⟩
      case measure => simp [intOf]
    · have hc0 : wr.cell? ⟨w7.heap.size, 35, none⟩ = some (.int .i64 (0)) := ((HR.out.cell (p := ⟨w7.heap.size, 35, none⟩) (Nat.lt_succ_self _)).trans (HC.out 35 (by decide))).trans (by rfl)
      have hc1 : wr.cell? ⟨w7.heap.size, 36, none⟩ = some (.int .i64 (-6)) := ((HR.out.cell (p := ⟨w7.heap.size, 36, none⟩) (Nat.lt_succ_self _)).trans (HC.out 36 (by decide))).trans (by rfl)
      have hc2 : wr.cell? ⟨w7.heap.size, 37, none⟩ = some (.int .i64 (5)) := ((HR.out.cell (p := ⟨w7.heap.size, 37, none⟩) (Nat.lt_succ_self _)).trans (HC.out 37 (by decide))).trans (by rfl)
      have hc3 : wr.cell? ⟨w7.heap.size, 38, none⟩ = some (.int .i64 (0)) := ((HR.out.cell (p := ⟨w7.heap.size, 38, none⟩) (Nat.lt_succ_self _)).trans (HC.out 38 (by decide))).trans (by rfl)
      have hc4 : wr.cell? ⟨w7.heap.size, 39, none⟩ = some (.int .i64 (0)) := ((HR.out.cell (p := ⟨w7.heap.size, 39, none⟩) (Nat.lt_succ_self _)).trans (HC.out 39 (by decide))).trans (by rfl)
      go_wp2_with fail
      refine (span_known (f := 0) (t := 0) _ (by unfold Pl.In64; decide) (by unfold Pl.In64; decide) (by unfold Pl.In64; decide) (by decide +kernel) (by decide +kernel)).mono ?_
      rintro e w9 ⟨rfl, rfl⟩
      go_wp2_with fail
      go_roundw
      case rel => exact ⟨8, by decide, by rfl, HR.out.alloc HZ1.out _⟩
      case measure => simp [intOf]
    · have hc0 : wr.cell? ⟨w7.heap.size, 40, none⟩ = some (.int .i64 (0)) := ((HR.out.cell (p := ⟨w7.heap.size, 40, none⟩) (Nat.lt_succ_self _)).trans (HC.out 40 (by decide))).trans (by rfl)
      have hc1 : wr.cell? ⟨w7.heap.size, 41, none⟩ = some (.int .i64 (-1)) := ((HR.out.cell (p := ⟨w7.heap.size, 41, none⟩) (Nat.lt_succ_self _)).trans (HC.out 41 (by decide))).trans (by rfl)
      have hc2 : wr.cell? ⟨w7.heap.size, 42, none⟩ = some (.int .i64 (0)) := ((HR.out.cell (p := ⟨w7.heap.size, 42, none⟩) (Nat.lt_succ_self _)).trans (HC.out 42 (by decide))).trans (by rfl)
      have hc3 : wr.cell? ⟨w7.heap.size, 43, none⟩ = some (.int .i64 (0)) := ((HR.out.cell (p := ⟨w7.heap.size, 43, none⟩) (Nat.lt_succ_self _)).trans (HC.out 43 (by decide))).trans (by rfl)
      have hc4 : wr.cell? ⟨w7.heap.size, 44, none⟩ = some (.int .i64 (0)) := ((HR.out.cell (p := ⟨w7.heap.size, 44, none⟩) (Nat.lt_succ_self _)).trans (HC.out 44 (by decide))).trans (by rfl)
      go_wp2_with fail
      refine (span_known (f := 0) (t := 0) _ (by unfold Pl.In64; decide) (by unfold Pl.In64; decide) (by unfold Pl.In64; decide) (by decide +kernel) (by decide +kernel)).mono ?_
      rintro e w9 ⟨rfl, rfl⟩
      go_wp2_with fail
      go_roundw
      case rel => exact ⟨9, by decide, by rfl, HR.out.alloc HZ1.out _⟩
      case measure => simp [intOf]
    · have hc0 : wr.cell? ⟨w7.heap.size, 45, none⟩ = some (.int .i64 (-9223372036854775808)) := ((HR.out.cell (p := ⟨w7.heap.size, 45, none⟩) (Nat.lt_succ_self _)).trans (HC.out 45 (by decide))).trans (by rfl)
      have hc1 : wr.cell? ⟨w7.heap.size, 46, none⟩ = some (.int .i64 (9223372036854775807)) := ((HR.out.cell (p := ⟨w7.heap.size, 46, none⟩) (Nat.lt_succ_self _)).trans (HC.out 46 (by decide))).trans (by rfl)
      have hc2 : wr.cell? ⟨w7.heap.size, 47, none⟩ = some (.int .i64 (5)) := ((HR.out.cell (p := ⟨w7.heap.size, 47, none⟩) (Nat.lt_succ_self _)).trans (HC.out 47 (by decide))).trans (by rfl)
      have hc3 : wr.cell? ⟨w7.heap.size, 48, none⟩ = some (.int .i64 (0)) := ((HR.out.cell (p := ⟨w7.heap.size, 48, none⟩) (Nat.lt_succ_self _)).trans (HC.out 48 (by decide))).trans (by rfl)
      have hc4 : wr.cell? ⟨w7.heap.size, 49, none⟩ = some (.int .i64 (5)) := ((HR.out.cell (p := ⟨w7.heap.size, 49, none⟩) (Nat.lt_succ_self _)).trans (HC.out 49 (by decide))).trans (by rfl)
      go_wp2_with fail
      refine (span_known (f := 0) (t := 5) _ (by unfold Pl.In64; decide) (by unfold Pl.In64; decide) (by unfold Pl.In64; decide) (by decide +kernel) (by decide +kernel)).mono ?_
      rintro e w9 ⟨rfl, rfl⟩
      go_wp2_with fail
      go_roundw
      case rel => exact ⟨10, by decide, by rfl, HR.out.alloc HZ1.out _⟩
      case measure => simp [intOf]
    · have hc0 : wr.cell? ⟨w7.heap.size, 50, none⟩ = some (.int .i64 (0)) := ((HR.out.cell (p := ⟨w7.heap.size, 50, none⟩) (Nat.lt_succ_self _)).trans (HC.out 50 (by decide))).trans (by rfl)
      have hc1 : wr.cell? ⟨w7.heap.size, 51, none⟩ = some (.int .i64 (0)) := ((HR.out.cell (p := ⟨w7.heap.size, 51, none⟩) (Nat.lt_succ_self _)).trans (HC.out 51 (by decide))).trans (by rfl)
      have hc2 : wr.cell? ⟨w7.heap.size, 52, none⟩ = some (.int .i64 (-3)) := ((HR.out.cell (p := ⟨w7.heap.size, 52, none⟩) (Nat.lt_succ_self _)).trans (HC.out 52 (by decide))).trans (by rfl)
      have hc3 : wr.cell? ⟨w7.heap.size, 53, none⟩ = some (.int .i64 (0)) := ((HR.out.cell (p := ⟨w7.heap.size, 53, none⟩) (Nat.lt_succ_self _)).trans (HC.out 53 (by decide))).trans (by rfl)
      have hc4 : wr.cell? ⟨w7.heap.size, 54, none⟩ = some (.int .i64 (0)) := ((HR.out.cell (p := ⟨w7.heap.size, 54, none⟩) (Nat.lt_succ_self _)).trans (HC.out 54 (by decide))).trans (by rfl)
      go_wp2_with fail
      refine (span_known (f := 0) (t := 0) _ (by unfold Pl.In64; decide) (by unfold Pl.In64; decide) (by unfold Pl.In64; decide) (by decide +kernel) (by decide +kernel)).mono ?_
      rintro e w9 ⟨rfl, rfl⟩
      go_wp2_with fail
      go_roundw
      case rel => exact ⟨11, by decide, by rfl, HR.out.alloc HZ1.out _⟩
      case measure => simp [intOf]
    · have H1 : Hid (Below w.heap.size w wr) := HB.out.trans (HR.out.mono (by have := HZ.out; omega))
      clear HC HS HB HZ HZ1 HR
      obtain ⟨wq, hq⟩ : ∃ x, x = wr := ⟨wr, rfl⟩
      subst hq
      rw [show ((11 : Nat) : Int) = (11 : Int) from rfl]
      go_wp2_with fail
      generalize hww10 : World.alloc wq _ = w10
      have hw2 : World.alloc wq (.cells (rowsB.map fun z => Value.int .i64 z).toArray 69) = w10 := hww10
      have HC : Hid (∀ j, j < 18 → w10.cell? ⟨wq.heap.size, j, none⟩ = some (.int .i64 (rowsB.getD j 0))) := fun j hj => by rw [← hw2]; exact cell_ints _ _ _ j hj
      have HS : Hid (w10.heap.size = wq.heap.size + 1) := by show _ = _; rw [← hw2]; simp
      have HB : Hid (Below w.heap.size w w10) := by rw [← hw2]; exact H1.out.alloc H1.out.size _
      have HZ : Hid (w.heap.size ≤ wq.heap.size) := H1.out.size
      clear hww10 hw2
      go_loopw [140] (fun i wr => ∃ k : Nat, k ≤ 6 ∧ i = .int .i64 k ∧ Hid (Below (wq.heap.size + 1) w10 wr)) (fun i _ => 6 - (intOf i).toNat)
      case atStart => exact ⟨0, by decide, rfl, Below.refl _ _⟩
      case round =>
        obtain ⟨k, hk, rfl, HR⟩ := hrel
        have hks : k = 0 ∨ k = 1 ∨ k = 2 ∨ k = 3 ∨ k = 4 ∨ k = 5 ∨ k = 6 := by omega
        have HZ1 : Hid (wq.heap.size + 1 ≤ wr.heap.size) := by show _ ≤ _; have := HR.out.size; have := HS.out; omega
        clear hk
        rcases hks with rfl | rfl | rfl | rfl | rfl | rfl | rfl
        · have hc0 : wr.cell? ⟨wq.heap.size, 0, none⟩ = some (.int .i64 (0)) := ((HR.out.cell (p := ⟨wq.heap.size, 0, none⟩) (Nat.lt_succ_self _)).trans (HC.out 0 (by decide))).trans (by rfl)
          have hc1 : wr.cell? ⟨wq.heap.size, 1, none⟩ = some (.int .i64 (3)) := ((HR.out.cell (p := ⟨wq.heap.size, 1, none⟩) (Nat.lt_succ_self _)).trans (HC.out 1 (by decide))).trans (by rfl)
          have hc2 : wr.cell? ⟨wq.heap.size, 2, none⟩ = some (.int .i64 (0)) := ((HR.out.cell (p := ⟨wq.heap.size, 2, none⟩) (Nat.lt_succ_self _)).trans (HC.out 2 (by decide))).trans (by rfl)
          go_wp2_with fail
          refine (place_known (v := 0) (b := true) _ (by unfold Pl.In64; decide) (by unfold Pl.In64; decide) (by decide +kernel) (by decide +kernel)).mono ?_
          rintro e w9 ⟨rfl, rfl⟩
          go_wp2_with fail
          go_roundw
          case rel => exact ⟨1, by decide, by rfl, HR.out.alloc HZ1.out _⟩
          case measure => simp [intOf]
        · have hc0 : wr.cell? ⟨wq.heap.size, 3, none⟩ = some (.int .i64 (-1)) := ((HR.out.cell (p := ⟨wq.heap.size, 3, none⟩) (Nat.lt_succ_self _)).trans (HC.out 3 (by decide))).trans (by rfl)
          have hc1 : wr.cell? ⟨wq.heap.size, 4, none⟩ = some (.int .i64 (3)) := ((HR.out.cell (p := ⟨wq.heap.size, 4, none⟩) (Nat.lt_succ_self _)).trans (HC.out 4 (by decide))).trans (by rfl)
          have hc2 : wr.cell? ⟨wq.heap.size, 5, none⟩ = some (.int .i64 (2)) := ((HR.out.cell (p := ⟨wq.heap.size, 5, none⟩) (Nat.lt_succ_self _)).trans (HC.out 5 (by decide))).trans (by rfl)
          go_wp2_with fail
          refine (place_known (v := 2) (b := true) _ (by unfold Pl.In64; decide) (by unfold Pl.In64; decide) (by decide +kernel) (by decide +kernel)).mono ?_
          rintro e w9 ⟨rfl, rfl⟩
          go_wp2_with fail
          go_roundw
          case rel => exact ⟨2, by decide, by rfl, HR.out.alloc HZ1.out _⟩
          case measure => simp [intOf]
        · have hc0 : wr.cell? ⟨wq.heap.size, 6, none⟩ = some (.int .i64 (3)) := ((HR.out.cell (p := ⟨wq.heap.size, 6, none⟩) (Nat.lt_succ_self _)).trans (HC.out 6 (by decide))).trans (by rfl)
          have hc1 : wr.cell? ⟨wq.heap.size, 7, none⟩ = some (.int .i64 (3)) := ((HR.out.cell (p := ⟨wq.heap.size, 7, none⟩) (Nat.lt_succ_self _)).trans (HC.out 7 (by decide))).trans (by rfl)
          have hc2 : wr.cell? ⟨wq.heap.size, 8, none⟩ = some (.int .i64 (-1)) := ((HR.out.cell (p := ⟨wq.heap.size, 8, none⟩) (Nat.lt_succ_self _)).trans (HC.out 8 (by decide))).trans (by rfl)
          go_wp2_with fail
          refine (place_known (v := 0) (b := false) _ (by unfold Pl.In64; decide) (by unfold Pl.In64; decide) (by decide +kernel) (by decide +kernel)).mono ?_
          rintro e w9 ⟨rfl, rfl⟩
          go_wp2_with fail
          go_roundw
          case rel => exact ⟨3, by decide, by rfl, HR.out.alloc HZ1.out _⟩
          case measure => simp [intOf]
        · have hc0 : wr.cell? ⟨wq.heap.size, 9, none⟩ = some (.int .i64 (-4)) := ((HR.out.cell (p := ⟨wq.heap.size, 9, none⟩) (Nat.lt_succ_self _)).trans (HC.out 9 (by decide))).trans (by rfl)
          have hc1 : wr.cell? ⟨wq.heap.size, 10, none⟩ = some (.int .i64 (3)) := ((HR.out.cell (p := ⟨wq.heap.size, 10, none⟩) (Nat.lt_succ_self _)).trans (HC.out 10 (by decide))).trans (by rfl)
          have hc2 : wr.cell? ⟨wq.heap.size, 11, none⟩ = some (.int .i64 (-1)) := ((HR.out.cell (p := ⟨wq.heap.size, 11, none⟩) (Nat.lt_succ_self _)).trans (HC.out 11 (by decide))).trans (by rfl)
          go_wp2_with fail
          refine (place_known (v := 0) (b := false) _ (by unfold Pl.In64; decide) (by unfold Pl.In64; decide) (by decide +kernel) (by decide +kernel)).mono ?_
          rintro e w9 ⟨rfl, rfl⟩
          go_wp2_with fail
          go_roundw
          case rel => exact ⟨4, by decide, by rfl, HR.out.alloc HZ1.out _⟩
          case measure => simp [intOf]
        · have hc0 : wr.cell? ⟨wq.heap.size, 12, none⟩ = some (.int .i64 (0)) := ((HR.out.cell (p := ⟨wq.heap.size, 12, none⟩) (Nat.lt_succ_self _)).trans (HC.out 12 (by decide))).trans (by rfl)
          have hc1 : wr.cell? ⟨wq.heap.size, 13, none⟩ = some (.int .i64 (0)) := ((HR.out.cell (p := ⟨wq.heap.size, 13, none⟩) (Nat.lt_succ_self _)).trans (HC.out 13 (by decide))).trans (by rfl)
          have hc2 : wr.cell? ⟨wq.heap.size, 14, none⟩ = some (.int .i64 (-1)) := ((HR.out.cell (p := ⟨wq.heap.size, 14, none⟩) (Nat.lt_succ_self _)).trans (HC.out 14 (by decide))).trans (by rfl)
          go_wp2_with fail
          refine (place_known (v := 0) (b := false) _ (by unfold Pl.In64; decide) (by unfold Pl.In64; decide) (by decide +kernel) (by decide +kernel)).mono ?_
          rintro e w9 ⟨rfl, rfl⟩
          go_wp2_with fail
          go_roundw
          case rel => exact ⟨5, by decide, by rfl, HR.out.alloc HZ1.out _⟩
          case measure => simp [intOf]
        · have hc0 : wr.cell? ⟨wq.heap.size, 15, none⟩ = some (.int .i64 (-9223372036854775808)) := ((HR.out.cell (p := ⟨wq.heap.size, 15, none⟩) (Nat.lt_succ_self _)).trans (HC.out 15 (by decide))).trans (by rfl)
          have hc1 : wr.cell? ⟨wq.heap.size, 16, none⟩ = some (.int .i64 (3)) := ((HR.out.cell (p := ⟨wq.heap.size, 16, none⟩) (Nat.lt_succ_self _)).trans (HC.out 16 (by decide))).trans (by rfl)
          have hc2 : wr.cell? ⟨wq.heap.size, 17, none⟩ = some (.int .i64 (-1)) := ((HR.out.cell (p := ⟨wq.heap.size, 17, none⟩) (Nat.lt_succ_self _)).trans (HC.out 17 (by decide))).trans (by rfl)
          go_wp2_with fail
          refine (place_known (v := 0) (b := false) _ (by unfold Pl.In64; decide) (by unfold Pl.In64; decide) (by decide +kernel) (by decide +kernel)).mono ?_
          rintro e w9 ⟨rfl, rfl⟩
          go_wp2_with fail
          go_roundw
          case rel => exact ⟨6, by decide, by rfl, HR.out.alloc HZ1.out _⟩
          case measure => simp [intOf]
        · have H2 : Hid (Below w.heap.size w wr) := HB.out.trans (HR.out.mono (by have := HZ.out; omega))
          go_wp2_with fail
          go_ret
          exact ⟨rfl, H2.out⟩

set_option maxRecDepth 100000 in
theorem lifted (os : Os) (started : os.Started) (H : Type) (enc : TypeId × Value → H) (F : Stop.Interp) :
    ReturnsInHanded {} Tryd.checked os 11 .any ((OpenSpec.ofChange Rows.digitKnownSpec).preRow enc Tryd.prog Tryd.f11 Rows.digitKnownRow.domain false Rows.digitKnownRow.laid)
      (((OpenSpec.ofChange Rows.digitKnownSpec).at F).post enc Tryd.prog Tryd.f11 false true false false) := by
  refine Fr.lifted (C := Tryd.checked) (s := (OpenSpec.ofChange Rows.digitKnownSpec)) (tb := 4) (by kernel_rfl) started (by kernel_rfl) Tryd.func11
    (Fr.witness_shaped (enc := enc) (C := Tryd.checked) (World.laidAll Tryd.prog os Rows.digitKnownRow.laid) #[] (World.laidAll_os _ _ _) (World.shaped_of_ZipB (by kernel_rfl) (by kernel_rfl)) (by kernel_rfl)
      (OpenSpec.preRow_of_cond 8 (x := ([], [], [])) (by kernel_rfl) (by kernel_rfl) (fun k hk => by cases hk) (by kernel_rfl) (laidMet_laidAll _ (by kernel_rfl) (by kernel_rfl))))
    (by kernel_rfl) (by kernel_rfl) rfl rfl Tryd.underlying4 ?_ ?_
  · intro ds hd
    match ds, hd with
    | [], _ => rfl
  · intro W base args ds before hval hA hz hk hsz hL hsh
    rw [MakeChecks.laidMetH_plain _ _ _ (by kernel_rfl)] at hL
    have hT := Fr.tab hL
    have hE := Fr.errs hL.tail.tail.tail hL.tail.tail.tail.tail
    rw [Tryd.params11] at hval hA hsz
    obtain ⟨hargs, rfl, rfl⟩ := trodAll_none hA
    obtain rfl : args = #[] := by cases args; simp_all
    exact walk   W hT hE

theorem said : Rows.DigitKnownSaid :=
  OpenClaim.holds_of_cond 11 Tryd.f11 rfl rfl rfl rfl rfl rfl rfl ⟨rfl, rfl, rfl, rfl, rfl⟩ rfl rfl rfl rfl rfl (by kernel_rfl) Tryd.func11 (by kernel_rfl)
    (of_decide_eq_true (by kernel_rfl)) (by unfold Func.isWrapper; first | (rw [if_pos (by decide +kernel)]; kernel_rfl) | (rw [if_neg (by decide +kernel)]; exact ⟨rfl, rfl⟩))
    (fun os started H enc _ F => by rw [OpenClaim.pre_eq_preRow]; exact lifted os started H enc F)

theorem plain (f : FuncId) (fn : Func) (hf : Tryd.pinned.checked.prog.funcNamed "pantry/pantrylaw01.DigitKnown" = some f) (hfn : Tryd.pinned.checked.prog.funcs[f]? = some fn) :
    true = Tryd.pinned.checked.prog.looks [] ∧ ∀ (j : Nat) t, fn.params[j]? = some t → Tryd.pinned.checked.prog.wantsStandIn t = false := by
  obtain rfl : f = 11 := Option.some.inj ((show Tryd.prog.funcNamed "pantry/pantrylaw01.DigitKnown" = some 11 by kernel_rfl).symm.trans hf) |>.symm
  obtain rfl : fn = Tryd.f11 := (Option.some.inj (Tryd.func11.symm.trans hfn)).symm
  refine ⟨by kernel_rfl, fun j t ht => ?_⟩
  rw [Tryd.params11] at ht
  have hm := Array.mem_of_getElem? ht
  simp at hm

/-- the statement: the tied card -/
theorem proved : Rows.DigitKnownCardSaid :=
  Claim7.holds_tied_plain_at .later [] _ _ _ _ said (fun _ h => by cases h) (by kernel_rfl) (fun _ h => by cases h) digitKnown_row_tie rfl ⟨rfl, rfl⟩ (by kernel_rfl) rfl plain (by kernel_rfl)
#print axioms proved
end Go.Proofs.YtenacajpgpkdnaaDoor.digitKnown
