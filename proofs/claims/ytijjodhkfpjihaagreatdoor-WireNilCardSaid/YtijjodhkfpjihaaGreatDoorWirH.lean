/- pantrylaw30.WireNil, the walk: true, whatever the step. Conditions: the step's memory reads as it must. -/
import Derived.Test.YtijjodhkfpjihaaGreatDoorWirA
import Derived.Test.YtijjodhkfpjihaaGreatDoorWirE
import Derived.Test.YtijjodhkfpjihaaGreatDoorWirG
namespace Go.Proofs.YtijjodhkfpjihaaGreatDoor
open Go.RowKit
set_option maxRecDepth 20000

/-- the one word PING is told to be the same -/
theorem same_ping (v : Value) (b g : Nat) (w : World) (h : Mm.OwnS w b v [[80, 73, 78, 71]]) (hg : w.cell? ⟨g, 0, none⟩ = some (.string ⟨#[80, 73, 78, 71]⟩)) :
    Calls Tryz.prog 9 #[v, .slice (some ⟨g, 0, none⟩) 1 1] w fun e w' => e = .returned (.bool true) ∧ Below w.heap.size w w' := by
  obtain ⟨a, c, rfl, h0 | ⟨g1, rfl, _, hgl, hc⟩⟩ := h.val
  · cases h0.1
  have hcell := h.cells (g := g1) rfl 0 (.string ⟨#[80, 73, 78, 71]⟩) rfl
  rw [show ((⟨g1, 0, none⟩ : Addr).add 0) = ⟨g1, 0, none⟩ from rfl] at hcell
  rw [show ([[80, 73, 78, 71]] : List (List UInt8)).length = 1 from rfl] at hc ⊢
  have HC := Pl.hid hcell
  have HG := Pl.hid hg
  have HGL := Pl.hid hgl
  have HGG := Pl.hid (World.block_lt_of_cell? _ _ hg)
  clear h hcell hg hgl hc
  go_enter Tryz.func9, Tryz.ntmps9
  go_wp2_with fail
  go_loopw [5] (fun iv wr => (iv = .int .i64 0 ∨ iv = .int .i64 1) ∧ Hid (Below w.heap.size w wr)) (fun iv _ => 1 - (intOf iv).toNat)
  case atStart => exact ⟨.inl rfl, Below.refl _ _⟩
  case round =>
    obtain ⟨rfl | rfl, HR⟩ := hrel
    · have c1 := (HR.out.cell (p := ⟨g1, 0, none⟩) HGL.out).trans HC.out
      have c2 := (HR.out.cell (p := ⟨g, 0, none⟩) HGG.out).trans HG.out
      go_wp2_with fail
      go_quiet (fail)
      go_wp2_with fail
      go_roundw
      case rel => exact ⟨.inr rfl, HR.out.trans (Mm.below_drewN _ _)⟩
      case measure => simp [intOf]
    · go_wp2_with fail
      go_ret
      exact ⟨rfl, HR.out⟩

theorem bounded_walk (f : Nat) (cs : List Value) (c0 c1 c2 c3 : Value) (hcs : cs = [c0, c1, c2, c3]) (W w : World) (h : Mm.RepOK W f cs) (hb : Below W.heap.size W w) :
    Calls Tryz.prog 7 #[.agg #[c0, c1, c2, c3]] w fun e w' => (∃ b, e = .returned (.bool b)) ∧ Below w.heap.size w w' := by
  subst hcs
  have H := Pl.hid h
  have HB := Pl.hid hb
  clear h hb
  go_enter Tryz.func7, Tryz.ntmps7
  go_wp2_with fail
  generalize hw1 : World.alloc w _ = w1
  have HB1 : Hid (Below w.heap.size w w1) := by rw [← hw1]; exact (Below.refl _ _).alloc (Nat.le_refl _) _
  clear hw1
  refine (within_walk W f _ H.out 0 w1 (by decide) (by decide) (HB.out.trans (HB1.out.mono HB.out.size))).mono ?_
  rintro e w2 ⟨⟨b, rfl⟩, hb2⟩
  have H2 := Pl.hid (HB1.out.trans (hb2.mono HB1.out.size))
  clear hb2
  go_wp2_with fail
  go_ret
  exact ⟨⟨_, rfl⟩, H2.out⟩
end Go.Proofs.YtijjodhkfpjihaaGreatDoor
