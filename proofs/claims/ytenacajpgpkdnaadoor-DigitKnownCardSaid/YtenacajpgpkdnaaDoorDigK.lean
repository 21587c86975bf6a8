/- The law's list of words that must not be read. The two errors of the library stand as they were laid. -/
import Derived.Test.YtenacajpgpkdnaaDoorDigJ
namespace Go.Proofs.YtenacajpgpkdnaaDoor
open Go.RowKit
set_option maxRecDepth 20000

namespace Pl
def badI : List ByteArray := [⟨#[]⟩, ⟨#[45]⟩, ⟨#[43, 49]⟩, ⟨#[48, 49]⟩, ⟨#[45, 48]⟩, ⟨#[48, 48]⟩, ⟨#[49, 46, 48]⟩, ⟨#[32, 49]⟩, ⟨#[57, 50, 50, 51, 51, 55, 50, 48, 51, 54, 56, 53, 52, 55, 55, 53, 56, 48, 56]⟩, ⟨#[45, 57, 50, 50, 51, 51, 55, 50, 48, 51, 54, 56, 53, 52, 55, 55, 53, 56, 48, 57]⟩, ⟨#[49, 50, 51, 52, 53, 54, 55, 56, 57, 48, 49, 50, 51, 52, 53, 54, 55, 56, 57, 48]⟩]
def badU : List ByteArray := [⟨#[]⟩, ⟨#[49, 56, 52, 52, 54, 55, 52, 52, 48, 55, 51, 55, 48, 57, 53, 53, 49, 54, 49, 54]⟩, ⟨#[45, 49]⟩, ⟨#[48, 48, 55]⟩, ⟨#[49, 56, 52, 52, 54, 55, 52, 52, 48, 55, 51, 55, 48, 57, 53, 53, 49, 54, 49, 53, 48]⟩]
theorem badI_none : ∀ k : Fin 11, (badI.getD k.val ⟨#[]⟩).size ≤ 140737488351232 ∧ rIv (L (badI.getD k.val ⟨#[]⟩)) = 0 ∧ rIc (L (badI.getD k.val ⟨#[]⟩)) = 10 := by decide +kernel
theorem badU_none : ∀ k : Fin 5, (badU.getD k.val ⟨#[]⟩).size ≤ 140737488351232 ∧ rUv (L (badU.getD k.val ⟨#[]⟩)) = 0 ∧ rUc (L (badU.getD k.val ⟨#[]⟩)) = 10 := by decide +kernel
end Pl
namespace Mm
theorem cell_lits (w : World) (ws : List ByteArray) (t : TypeId) (k : Nat) (h : k < ws.length) : (w.alloc (.cells (ws.map Value.string).toArray t)).cell? ⟨w.heap.size, k, none⟩ = some (.string (ws.getD k ⟨#[]⟩)) := by
  rw [World.cell?_alloc_mark]
  simp [List.getD_eq_getElem?_getD, List.getElem?_eq_getElem h]
end Mm

theorem refused_walk (w : World) (hE : Mm.Errs w) :
    Calls Tryd.prog 54 #[] w fun e w' => e = .returned (.bool true) ∧ Below w.heap.size w w' := by
  have HE := Pl.hid hE
  clear hE
  go_enter Tryd.func54, Tryd.ntmps54
  go_wp2_with fail
  have H0 : Hid (Below w.heap.size w w) := Below.refl _ _
  generalize hww1 : World.alloc w _ = w1
  have hw2 : World.alloc w (.cells (Pl.badI.map Value.string).toArray 9) = w1 := hww1
  have HC : Hid (∀ k, k < 11 → w1.cell? ⟨w.heap.size, k, none⟩ = some (.string (Pl.badI.getD k ⟨#[]⟩))) := fun k hk => by rw [← hw2]; exact Mm.cell_lits _ _ _ k hk
  have HS : Hid (w1.heap.size = w.heap.size + 1) := by show _ = _; rw [← hw2]; simp
  have HB : Hid (Below w.heap.size w w1) := by rw [← hw2]; exact H0.out.alloc H0.out.size _
  have HZ : Hid (w.heap.size ≤ w.heap.size) := H0.out.size
  clear hww1 hw2
  go_loopw [11] (fun i wr => ∃ k : Nat, k ≤ 11 ∧ i = .int .i64 k ∧ Hid (Below (w.heap.size + 1) w1 wr)) (fun i _ => 11 - (intOf i).toNat)
  case atStart => exact ⟨0, by decide, rfl, Below.refl _ _⟩
  case round =>
    obtain ⟨k, hk, rfl, HR⟩ := hrel
    have hks : k = 0 ∨ k = 1 ∨ k = 2 ∨ k = 3 ∨ k = 4 ∨ k = 5 ∨ k = 6 ∨ k = 7 ∨ k = 8 ∨ k = 9 ∨ k = 10 ∨ k = 11 := by omega
    have HZ1 : Hid (w.heap.size + 1 ≤ wr.heap.size) := by show _ ≤ _; have := HR.out.size; have := HS.out; omega
    have HE1 : Hid (Mm.Errs wr) := HE.out.on (HB.out.trans (HR.out.mono (by have := HZ.out; omega)))
    clear hk
    rcases hks with rfl | rfl | rfl | rfl | rfl | rfl | rfl | rfl | rfl | rfl | rfl | rfl
    · have hc : wr.cell? ⟨w.heap.size, 0, none⟩ = some (.string (Pl.badI.getD 0 ⟨#[]⟩)) := (HR.out.cell (p := ⟨w.heap.size, 0, none⟩) (Nat.lt_succ_self _)).trans (HC.out 0 (by decide))
      obtain ⟨S, hS⟩ : ∃ S, S = Pl.badI.getD 0 ⟨#[]⟩ := ⟨_, rfl⟩
      have HN : Hid (S.size ≤ 140737488351232 ∧ Pl.rIv (Pl.L S) = 0 ∧ Pl.rIc (Pl.L S) = 10) := by rw [hS]; exact Pl.badI_none ⟨0, by decide⟩
      rw [← hS] at hc
      clear hS
      go_wp2_with fail
      refine (int_known (v := 0) (c := 10) _ HN.out.1 HE1.out HN.out.2.1 HN.out.2.2).mono ?_
      rintro e w9 ⟨rfl, hb⟩
      have H9 := Pl.hid (HR.out.trans (hb.mono HZ1.out))
      clear hb hc
      go_wp2_with fail
      go_roundw
      case rel => exact ⟨1, by decide, by rfl, H9⟩
      case measure => simp [intOf]
    · have hc : wr.cell? ⟨w.heap.size, 1, none⟩ = some (.string (Pl.badI.getD 1 ⟨#[]⟩)) := (HR.out.cell (p := ⟨w.heap.size, 1, none⟩) (Nat.lt_succ_self _)).trans (HC.out 1 (by decide))
      obtain ⟨S, hS⟩ : ∃ S, S = Pl.badI.getD 1 ⟨#[]⟩ := ⟨_, rfl⟩
      have HN : Hid (S.size ≤ 140737488351232 ∧ Pl.rIv (Pl.L S) = 0 ∧ Pl.rIc (Pl.L S) = 10) := by rw [hS]; exact Pl.badI_none ⟨1, by decide⟩
      rw [← hS] at hc
      clear hS
      go_wp2_with fail
      refine (int_known (v := 0) (c := 10) _ HN.out.1 HE1.out HN.out.2.1 HN.out.2.2).mono ?_
      rintro e w9 ⟨rfl, hb⟩
      have H9 := Pl.hid (HR.out.trans (hb.mono HZ1.out))
      clear hb hc
      go_wp2_with fail
      go_roundw
      case rel => exact ⟨2, by decide, by rfl, H9⟩
      case measure => simp [intOf]
    · have hc : wr.cell? ⟨w.heap.size, 2, none⟩ = some (.string (Pl.badI.getD 2 ⟨#[]⟩)) := (HR.out.cell (p := ⟨w.heap.size, 2, none⟩) (Nat.lt_succ_self _)).trans (HC.out 2 (by decide))
      obtain ⟨S, hS⟩ : ∃ S, S = Pl.badI.getD 2 ⟨#[]⟩ := ⟨_, rfl⟩
      have HN : Hid (S.size ≤ 140737488351232 ∧ Pl.rIv (Pl.L S) = 0 ∧ Pl.rIc (Pl.L S) = 10) := by rw [hS]; exact Pl.badI_none ⟨2, by decide⟩
      rw [← hS] at hc
      clear hS
      go_wp2_with fail
      refine (int_known (v := 0) (c := 10) _ HN.out.1 HE1.out HN.out.2.1 HN.out.2.2).mono ?_
      rintro e w9 ⟨rfl, hb⟩
      have H9 := Pl.hid (HR.out.trans (hb.mono HZ1.out))
      clear hb hc
      go_wp2_with fail
      go_roundw
      case rel => exact ⟨3, by decide, by rfl, H9⟩
      case measure => simp [intOf]
    · have hc : wr.cell? ⟨w.heap.size, 3, none⟩ = some (.string (Pl.badI.getD 3 ⟨#[]⟩)) := (HR.out.cell (p := ⟨w.heap.size, 3, none⟩) (Nat.lt_succ_self _)).trans (HC.out 3 (by decide))
      obtain ⟨S, hS⟩ : ∃ S, S = Pl.badI.getD 3 ⟨#[]⟩ := ⟨_, rfl⟩
      have HN : Hid (S.size ≤ 140737488351232 ∧ Pl.rIv (Pl.L S) = 0 ∧ Pl.rIc (Pl.L S) = 10) := by rw [hS]; exact Pl.badI_none ⟨3, by decide⟩
      rw [← hS] at hc
      clear hS
      go_wp2_with fail
      refine (int_known (v := 0) (c := 10) _ HN.out.1 HE1.out HN.out.2.1 HN.out.2.2).mono ?_
      rintro e w9 ⟨rfl, hb⟩
      have H9 := Pl.hid (HR.out.trans (hb.mono HZ1.out))
      clear hb hc
      go_wp2_with fail
      go_roundw
      case rel => exact ⟨4, by decide, by rfl, H9⟩
      case measure => simp [intOf]
    · have hc : wr.cell? ⟨w.heap.size, 4, none⟩ = some (.string (Pl.badI.getD 4 ⟨#[]⟩)) := (HR.out.cell (p := ⟨w.heap.size, 4, none⟩) (Nat.lt_succ_self _)).trans (HC.out 4 (by decide))
      obtain ⟨S, hS⟩ : ∃ S, S = Pl.badI.getD 4 ⟨#[]⟩ := ⟨_, rfl⟩
      have HN : Hid (S.size ≤ 140737488351232 ∧ Pl.rIv (Pl.L S) = 0 ∧ Pl.rIc (Pl.L S) = 10) := by rw [hS]; exact Pl.badI_none ⟨4, by decide⟩
      rw [← hS] at hc
      clear hS
      go_wp2_with fail
      refine (int_known (v := 0) (c := 10) _ HN.out.1 HE1.out HN.out.2.1 HN.out.2.2).mono ?_
      rintro e w9 ⟨rfl, hb⟩
      have H9 := Pl.hid (HR.out.trans (hb.mono HZ1.out))
      clear hb hc
      go_wp2_with fail
      go_roundw
      case rel => exact ⟨5, by decide, by rfl, H9⟩
      case measure => simp [intOf]
    · have hc : wr.cell? ⟨w.heap.size, 5, none⟩ = some (.string (Pl.badI.getD 5 ⟨#[]⟩)) := (HR.out.cell (p := ⟨w.heap.size, 5, none⟩) (Nat.lt_succ_self _)).trans (HC.out 5 (by decide))
      obtain ⟨S, hS⟩ : ∃ S, S = Pl.badI.getD 5 ⟨#[]⟩ := ⟨_, rfl⟩
      have HN : Hid (S.size ≤ 140737488351232 ∧ Pl.rIv (Pl.L S) = 0 ∧ Pl.rIc (Pl.L S) = 10) := by rw [hS]; exact Pl.badI_none ⟨5, by decide⟩
      rw [← hS] at hc
      clear hS
      go_wp2_with fail
      refine (int_known (v := 0) (c := 10) _ HN.out.1 HE1.out HN.out.2.1 HN.out.2.2).mono ?_
      rintro e w9 ⟨rfl, hb⟩
      have H9 := Pl.hid (HR.out.trans (hb.mono HZ1.out))
      clear hb hc
      go_wp2_with fail
      go_roundw
      case rel => exact ⟨6, by decide, by rfl, H9⟩
      case measure => simp [intOf]
    · have hc : wr.cell? ⟨w.heap.size, 6, none⟩ = some (.string (Pl.badI.getD 6 ⟨#[]⟩)) := (HR.out.cell (p := ⟨w.heap.size, 6, none⟩) (Nat.lt_succ_self _)).trans (HC.out 6 (by decide))
      obtain ⟨S, hS⟩ : ∃ S, S = Pl.badI.getD 6 ⟨#[]⟩ := ⟨_, rfl⟩
      have HN : Hid (S.size ≤ 140737488351232 ∧ Pl.rIv (Pl.L S) = 0 ∧ Pl.rIc (Pl.L S) = 10) := by rw [hS]; exact Pl.badI_none ⟨6, by decide⟩
      rw [← hS] at hc
      clear hS
      go_wp2_with fail
      refine (int_known (v := 0) (c := 10) _ HN.out.1 HE1.out HN.out.2.1 HN.out.2.2).mono ?_
      rintro e w9 ⟨rfl, hb⟩
      have H9 := Pl.hid (HR.out.trans (hb.mono HZ1.out))
      clear hb hc
      go_wp2_with fail
      go_roundw
      case rel => exact ⟨7, by decide, by rfl, H9⟩
      case measure => simp [intOf]
    · have hc : wr.cell? ⟨w.heap.size, 7, none⟩ = some (.string (Pl.badI.getD 7 ⟨#[]⟩)) := (HR.out.cell (p := ⟨w.heap.size, 7, none⟩) (Nat.lt_succ_self _)).trans (HC.out 7 (by decide))
      obtain ⟨S, hS⟩ : ∃ S, S = Pl.badI.getD 7 ⟨#[]⟩ := ⟨_, rfl⟩
      have HN : Hid (S.size ≤ 140737488351232 ∧ Pl.rIv (Pl.L S) = 0 ∧ Pl.rIc (Pl.L S) = 10) := by rw [hS]; exact Pl.badI_none ⟨7, by decide⟩
      rw [← hS] at hc
      clear hS
      go_wp2_with fail
      refine (int_known (v := 0) (c := 10) _ HN.out.1 HE1.out HN.out.2.1 HN.out.2.2).mono ?_
      rintro e w9 ⟨rfl, hb⟩
      have H9 := Pl.hid (HR.out.trans (hb.mono HZ1.out))
      clear hb hc
      go_wp2_with fail
      go_roundw
      case rel => exact ⟨8, by decide, by rfl, H9⟩
      case measure => simp [intOf]
    · have hc : wr.cell? ⟨w.heap.size, 8, none⟩ = some (.string (Pl.badI.getD 8 ⟨#[]⟩)) := (HR.out.cell (p := ⟨w.heap.size, 8, none⟩) (Nat.lt_succ_self _)).trans (HC.out 8 (by decide))
      obtain ⟨S, hS⟩ : ∃ S, S = Pl.badI.getD 8 ⟨#[]⟩ := ⟨_, rfl⟩
      have HN : Hid (S.size ≤ 140737488351232 ∧ Pl.rIv (Pl.L S) = 0 ∧ Pl.rIc (Pl.L S) = 10) := by rw [hS]; exact Pl.badI_none ⟨8, by decide⟩
      rw [← hS] at hc
      clear hS
      go_wp2_with fail
      refine (int_known (v := 0) (c := 10) _ HN.out.1 HE1.out HN.out.2.1 HN.out.2.2).mono ?_
      rintro e w9 ⟨rfl, hb⟩
      have H9 := Pl.hid (HR.out.trans (hb.mono HZ1.out))
      clear hb hc
      go_wp2_with fail
      go_roundw
      case rel => exact ⟨9, by decide, by rfl, H9⟩
      case measure => simp [intOf]
    · have hc : wr.cell? ⟨w.heap.size, 9, none⟩ = some (.string (Pl.badI.getD 9 ⟨#[]⟩)) := (HR.out.cell (p := ⟨w.heap.size, 9, none⟩) (Nat.lt_succ_self _)).trans (HC.out 9 (by decide))
      obtain ⟨S, hS⟩ : ∃ S, S = Pl.badI.getD 9 ⟨#[]⟩ := ⟨_, rfl⟩
      have HN : Hid (S.size ≤ 140737488351232 ∧ Pl.rIv (Pl.L S) = 0 ∧ Pl.rIc (Pl.L S) = 10) := by rw [hS]; exact Pl.badI_none ⟨9, by decide⟩
      rw [← hS] at hc
      clear hS
      go_wp2_with fail
      refine (int_known (v := 0) (c := 10) _ HN.out.1 HE1.out HN.out.2.1 HN.out.2.2).mono ?_
      rintro e w9 ⟨rfl, hb⟩
      have H9 := Pl.hid (HR.out.trans (hb.mono HZ1.out))
      clear hb hc
      go_wp2_with fail
      go_roundw
      case rel => exact ⟨10, by decide, by rfl, H9⟩
      case measure => simp [intOf]
    · have hc : wr.cell? ⟨w.heap.size, 10, none⟩ = some (.string (Pl.badI.getD 10 ⟨#[]⟩)) := (HR.out.cell (p := ⟨w.heap.size, 10, none⟩) (Nat.lt_succ_self _)).trans (HC.out 10 (by decide))
      obtain ⟨S, hS⟩ : ∃ S, S = Pl.badI.getD 10 ⟨#[]⟩ := ⟨_, rfl⟩
      have HN : Hid (S.size ≤ 140737488351232 ∧ Pl.rIv (Pl.L S) = 0 ∧ Pl.rIc (Pl.L S) = 10) := by rw [hS]; exact Pl.badI_none ⟨10, by decide⟩
      rw [← hS] at hc
      clear hS
      go_wp2_with fail
      refine (int_known (v := 0) (c := 10) _ HN.out.1 HE1.out HN.out.2.1 HN.out.2.2).mono ?_
      rintro e w9 ⟨rfl, hb⟩
      have H9 := Pl.hid (HR.out.trans (hb.mono HZ1.out))
      clear hb hc
      go_wp2_with fail
      go_roundw
      case rel => exact ⟨11, by decide, by rfl, H9⟩
      case measure => simp [intOf]
    · have H1 : Hid (Below w.heap.size w wr) := HB.out.trans (HR.out.mono (by have := HZ.out; omega))
      clear HC HS HB HZ HZ1 HE1 HR H0
      obtain ⟨wq, hq⟩ : ∃ x, x = wr := ⟨wr, rfl⟩
      subst hq
      rw [show ((11 : Nat) : Int) = (11 : Int) from rfl]
      go_wp2_with fail
      generalize hww2 : World.alloc wq _ = w2
      have hw2 : World.alloc wq (.cells (Pl.badU.map Value.string).toArray 9) = w2 := hww2
      have HC : Hid (∀ k, k < 5 → w2.cell? ⟨wq.heap.size, k, none⟩ = some (.string (Pl.badU.getD k ⟨#[]⟩))) := fun k hk => by rw [← hw2]; exact Mm.cell_lits _ _ _ k hk
      have HS : Hid (w2.heap.size = wq.heap.size + 1) := by show _ = _; rw [← hw2]; simp
      have HB : Hid (Below w.heap.size w w2) := by rw [← hw2]; exact H1.out.alloc H1.out.size _
      have HZ : Hid (w.heap.size ≤ wq.heap.size) := H1.out.size
      clear hww2 hw2
      go_loopw [29] (fun i wr => ∃ k : Nat, k ≤ 5 ∧ i = .int .i64 k ∧ Hid (Below (wq.heap.size + 1) w2 wr)) (fun i _ => 5 - (intOf i).toNat)
      case atStart => exact ⟨0, by decide, rfl, Below.refl _ _⟩
      case round =>
        obtain ⟨k, hk, rfl, HR⟩ := hrel
        have hks : k = 0 ∨ k = 1 ∨ k = 2 ∨ k = 3 ∨ k = 4 ∨ k = 5 := by omega
        have HZ1 : Hid (wq.heap.size + 1 ≤ wr.heap.size) := by show _ ≤ _; have := HR.out.size; have := HS.out; omega
        have HE1 : Hid (Mm.Errs wr) := HE.out.on (HB.out.trans (HR.out.mono (by have := HZ.out; omega)))
        clear hk
        rcases hks with rfl | rfl | rfl | rfl | rfl | rfl
        · have hc : wr.cell? ⟨wq.heap.size, 0, none⟩ = some (.string (Pl.badU.getD 0 ⟨#[]⟩)) := (HR.out.cell (p := ⟨wq.heap.size, 0, none⟩) (Nat.lt_succ_self _)).trans (HC.out 0 (by decide))
          obtain ⟨S, hS⟩ : ∃ S, S = Pl.badU.getD 0 ⟨#[]⟩ := ⟨_, rfl⟩
          have HN : Hid (S.size ≤ 140737488351232 ∧ Pl.rUv (Pl.L S) = 0 ∧ Pl.rUc (Pl.L S) = 10) := by rw [hS]; exact Pl.badU_none ⟨0, by decide⟩
          rw [← hS] at hc
          clear hS
          go_wp2_with fail
          refine (uint_known (v := 0) (c := 10) _ HN.out.1 HE1.out HN.out.2.1 HN.out.2.2).mono ?_
          rintro e w9 ⟨rfl, hb⟩
          have H9 := Pl.hid (HR.out.trans (hb.mono HZ1.out))
          clear hb hc
          go_wp2_with fail
          go_roundw
          case rel => exact ⟨1, by decide, by rfl, H9⟩
          case measure => simp [intOf]
        · have hc : wr.cell? ⟨wq.heap.size, 1, none⟩ = some (.string (Pl.badU.getD 1 ⟨#[]⟩)) := (HR.out.cell (p := ⟨wq.heap.size, 1, none⟩) (Nat.lt_succ_self _)).trans (HC.out 1 (by decide))
          obtain ⟨S, hS⟩ : ∃ S, S = Pl.badU.getD 1 ⟨#[]⟩ := ⟨_, rfl⟩
          have HN : Hid (S.size ≤ 140737488351232 ∧ Pl.rUv (Pl.L S) = 0 ∧ Pl.rUc (Pl.L S) = 10) := by rw [hS]; exact Pl.badU_none ⟨1, by decide⟩
          rw [← hS] at hc
          clear hS
          go_wp2_with fail
          refine (uint_known (v := 0) (c := 10) _ HN.out.1 HE1.out HN.out.2.1 HN.out.2.2).mono ?_
          rintro e w9 ⟨rfl, hb⟩
          have H9 := Pl.hid (HR.out.trans (hb.mono HZ1.out))
          clear hb hc
          go_wp2_with fail
          go_roundw
          case rel => exact ⟨2, by decide, by rfl, H9⟩
          case measure => simp [intOf]
        · have hc : wr.cell? ⟨wq.heap.size, 2, none⟩ = some (.string (Pl.badU.getD 2 ⟨#[]⟩)) := (HR.out.cell (p := ⟨wq.heap.size, 2, none⟩) (Nat.lt_succ_self _)).trans (HC.out 2 (by decide))
          obtain ⟨S, hS⟩ : ∃ S, S = Pl.badU.getD 2 ⟨#[]⟩ := ⟨_, rfl⟩
          have HN : Hid (S.size ≤ 140737488351232 ∧ Pl.rUv (Pl.L S) = 0 ∧ Pl.rUc (Pl.L S) = 10) := by rw [hS]; exact Pl.badU_none ⟨2, by decide⟩
          rw [← hS] at hc
          clear hS
          go_wp2_with fail
          refine (uint_known (v := 0) (c := 10) _ HN.out.1 HE1.out HN.out.2.1 HN.out.2.2).mono ?_
          rintro e w9 ⟨rfl, hb⟩
          have H9 := Pl.hid (HR.out.trans (hb.mono HZ1.out))
          clear hb hc
          go_wp2_with fail
          go_roundw
          case rel => exact ⟨3, by decide, by rfl, H9⟩
          case measure => simp [intOf]
        · have hc : wr.cell? ⟨wq.heap.size, 3, none⟩ = some (.string (Pl.badU.getD 3 ⟨#[]⟩)) := (HR.out.cell (p := ⟨wq.heap.size, 3, none⟩) (Nat.lt_succ_self _)).trans (HC.out 3 (by decide))
          obtain ⟨S, hS⟩ : ∃ S, S = Pl.badU.getD 3 ⟨#[]⟩ := ⟨_, rfl⟩
          have HN : Hid (S.size ≤ 140737488351232 ∧ Pl.rUv (Pl.L S) = 0 ∧ Pl.rUc (Pl.L S) = 10) := by rw [hS]; exact Pl.badU_none ⟨3, by decide⟩
          rw [← hS] at hc
          clear hS
          go_wp2_with fail
          refine (uint_known (v := 0) (c := 10) _ HN.out.1 HE1.out HN.out.2.1 HN.out.2.2).mono ?_
          rintro e w9 ⟨rfl, hb⟩
          have H9 := Pl.hid (HR.out.trans (hb.mono HZ1.out))
          clear hb hc
          go_wp2_with fail
          go_roundw
          case rel => exact ⟨4, by decide, by rfl, H9⟩
          case measure => simp [intOf]
        · have hc : wr.cell? ⟨wq.heap.size, 4, none⟩ = some (.string (Pl.badU.getD 4 ⟨#[]⟩)) := (HR.out.cell (p := ⟨wq.heap.size, 4, none⟩) (Nat.lt_succ_self _)).trans (HC.out 4 (by decide))
          obtain ⟨S, hS⟩ : ∃ S, S = Pl.badU.getD 4 ⟨#[]⟩ := ⟨_, rfl⟩
          have HN : Hid (S.size ≤ 140737488351232 ∧ Pl.rUv (Pl.L S) = 0 ∧ Pl.rUc (Pl.L S) = 10) := by rw [hS]; exact Pl.badU_none ⟨4, by decide⟩
          rw [← hS] at hc
          clear hS
          go_wp2_with fail
          refine (uint_known (v := 0) (c := 10) _ HN.out.1 HE1.out HN.out.2.1 HN.out.2.2).mono ?_
          rintro e w9 ⟨rfl, hb⟩
          have H9 := Pl.hid (HR.out.trans (hb.mono HZ1.out))
          clear hb hc
          go_wp2_with fail
          go_roundw
          case rel => exact ⟨5, by decide, by rfl, H9⟩
          case measure => simp [intOf]
        · have H2 : Hid (Below w.heap.size w wr) := HB.out.trans (HR.out.mono (by have := HZ.out; omega))
          go_wp2_with fail
          go_ret
          exact ⟨rfl, H2.out⟩
end Go.Proofs.YtenacajpgpkdnaaDoor
