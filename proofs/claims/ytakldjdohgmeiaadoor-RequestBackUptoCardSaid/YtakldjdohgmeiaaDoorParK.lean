/- The law's wakes of package pantrylaw17. Conditions stand in the law. -/
import Derived.Test.YtakldjdohgmeiaaDoorParJ
import Derived.Lib.SlBytesConst
namespace Go.Proofs.YtakldjdohgmeiaaDoor
open Go.RowKit
set_option maxRecDepth 20000

namespace Pl
def wakL : List UInt8 := [42, 50, 13, 10, 36, 51, 13, 10, 71, 69, 84, 13, 10, 36, 49, 13, 10, 107, 13, 10, 103, 101, 116, 32, 39, 97, 32, 98, 39, 13, 10, 42]
def wakSt : Pst := ⟨0, [], 0, 4, -1, [[[71, 69, 84], [107]], [[103, 101, 116], [97, 32, 98]]], false⟩
theorem wak_feed : feedA fresh [] wakL = (wakSt, [42]) := by decide +kernel
end Pl
namespace Mm
open Pl
theorem bytes_alloc (w : World) (l : List UInt8) (fr : Nat × Nat) : BytesAt (w.alloc (.cells (bytesV l).toArray 5 fr)) w.heap.size 0 l := fun j hj => by
  rw [Nat.zero_add, World.cell?_alloc_mark]
  simp only [List.getElem?_toArray, bytesV, List.getElem?_map, List.getElem?_eq_getElem hj, Option.map_some, Option.some.injEq]
  unfold byteV at_
  rw [List.getD_eq_getElem?_getD, List.getElem?_eq_getElem hj]
  rfl
theorem bs_alloc (w : World) (l : List UInt8) (fr : Nat × Nat) (n : Nat) (hn : n = l.length) : Bs (w.alloc (.cells (bytesV l).toArray 5 fr)) (.slice (some ⟨w.heap.size, 0, none⟩) n n) l := by
  subst hn
  exact ⟨_, _, rfl, Nat.le_refl _, fun e => (by cases e), fun _ => ⟨_, _, rfl, bytes_alloc w l fr⟩⟩
theorem rowT_alloc (w : World) (l : List (List UInt8)) (n : Nat) (hn : n = l.length) : RowT (w.alloc (.cells (strsV l).toArray 9)) (.slice (some ⟨w.heap.size, 0, none⟩) n n) l := by
  subst hn
  refine ⟨_, _, rfl, Nat.le_refl _, fun _ => ⟨_, _, rfl, fun i s hs => ?_⟩⟩
  rw [Nat.zero_add, World.cell?_alloc_mark]
  simp [strsV, hs]
theorem PB.below {w w' : World} {p : Nat} {buf : List UInt8} {st : Pst} {G : Nat → Prop} (h : PB w p buf st G) (hb : Below w.heap.size w w') : PB w' p buf st G := by
  obtain ⟨bv, F, h1, h2, h3, h4⟩ := h
  exact ⟨bv, F, h1.below hb, h2.keep (fun g hg => hb.block g (h2.lt g hg).2), h3, h4⟩
theorem Chg.under0 {B : Nat} {W w w' : World} {F F' : Nat → Prop} (h : Chg w F w' F') (hB : B ≤ W.heap.size) (hW : Below B W w) (hF : ∀ g, F g → B ≤ g) : Below B W w' :=
  ⟨h.os.trans hW.os, h.tape.trans hW.tape, h.output.trans hW.output, Nat.le_trans hW.size h.size, fun g hg => (h.block g (Nat.lt_of_lt_of_le hg (Nat.le_trans hB hW.size)) (fun hf => by have := hF g hf; omega)).trans (hW.block g hg)⟩
theorem OwnS.st {w w' : World} {p : Nat} {v : Value} {l : List (List UInt8)} (h : OwnS w (p + 1) v l) (hg : w.grownBy w' (some p)) : OwnS w' (p + 1) v l :=
  h.keep fun g0 hg0 => hg.block g0 (h.lt g0 hg0).2 (fun e => by injection e with e; have := (h.lt g0 hg0).1; omega)
end Mm

set_option maxHeartbeats 4000000 in
theorem wakes17_walk (W w : World) (hR : Mm.RErr W) (hE : Mm.Errs W) (hI : Mm.InlE W) (hW : Below W.heap.size W w) :
    Calls Tryd.prog 37 #[] w fun e w' => e = .returned (.bool true) ∧ Below w.heap.size w w' := by
  have HR := Pl.hid hR
  have HE := Pl.hid hE
  have HI := Pl.hid hI
  have HW := Pl.hid hW
  have HWs := Pl.hid hW.size
  clear hR hE hI hW
  go_enter Tryd.func37, Tryd.ntmps37
  go_wp2_with fail
  refine (pnew_walk w).mono ?_
  rintro e w1 ⟨rfl, hp1, hs1, hb1⟩
  have HP1 := Pl.hid hp1
  have HS1 := Pl.hid hs1
  have HB1 := Pl.hid hb1
  obtain ⟨wz, hwz⟩ : ∃ wz, wz = w1.alloc (.cells (Pl.bytesV Pl.wakL).toArray 5 (32, 33)) := ⟨_, rfl⟩
  have HCV : Hid ((convert 24 24 (.slice (some ⟨w1.heap.size, 0, none⟩) 32 32)).run Tryd.prog (w1.alloc (.cells #[.int .u8 42, .int .u8 50, .int .u8 13, .int .u8 10, .int .u8 36, .int .u8 51, .int .u8 13, .int .u8 10, .int .u8 71, .int .u8 69, .int .u8 84, .int .u8 13, .int .u8 10, .int .u8 36, .int .u8 49, .int .u8 13, .int .u8 10, .int .u8 107, .int .u8 13, .int .u8 10, .int .u8 103, .int .u8 101, .int .u8 116, .int .u8 32, .int .u8 39, .int .u8 97, .int .u8 32, .int .u8 98, .int .u8 39, .int .u8 13, .int .u8 10, .int .u8 42] 5)) = .ok (.slice (some ⟨w1.heap.size, 0, none⟩) 32 32) wz) := by
    show _ = _
    rw [hwz]
    exact Lib.run_convert_bytes_const w1 _ _ _ 32 32 Tryd.underlying24 Tryd.underlying5
  have HBS : Hid (Mm.Bs wz (.slice (some ⟨w1.heap.size, 0, none⟩) 32 32) Pl.wakL) := by rw [hwz]; exact Mm.bs_alloc w1 Pl.wakL _ 32 rfl
  have HA : Hid (Below w1.heap.size w1 wz) := by rw [hwz]; exact (Below.refl _ _).alloc (Nat.le_refl _) _
  have HWA : Hid (Below W.heap.size W wz) := HW.out.trans ((HB1.out.trans (HA.out.mono HB1.out.size)).mono HWs.out)
  have HPZ : Hid (Mm.PB wz w.heap.size [] Pl.fresh (fun g => g = w.heap.size)) := HP1.out.below HA.out
  have hcv := HCV.out
  clear hp1 hs1 hb1 hwz
  go_wp2_with fail
  refine (feed_walk w.heap.size _ Pl.wakL [] Pl.fresh _ W wz HWs.out HR.out HE.out HI.out HWA.out (by decide) (by decide) HBS.out HPZ.out rfl Pl.okP_fresh 0 (by unfold Pl.bnd Pl.fresh; simp) (by decide)).mono ?_
  rw [Pl.wak_feed]
  rintro e w2 ⟨rfl, G2, hp2, hc2⟩
  have HN2 := Pl.hid hp2.asked
  have HB2 : Hid (Below w.heap.size w w2) := hc2.under0 (Nat.le_refl _) (HB1.out.trans (HA.out.mono HB1.out.size)) (fun g hg => by rw [hg]; exact Nat.le_refl _)
  clear hp2 hc2 hcv
  go_wp2_with fail
  refine (pnext_some w.heap.size [[71, 69, 84], [107]] [[[103, 101, 116], [97, 32, 98]]] Pl.wakSt 1 w2 HN2.out).mono ?_
  rintro e w3 ⟨⟨va, rfl, hoa⟩, hn3, hg3⟩
  have HOA := Pl.hid hoa
  have HN3 := Pl.hid hn3
  have HB3 : Hid (Below w.heap.size w w3) := HB2.out.grown hg3 HB2.out.size (fun k hk => by injection hk with hk; omega)
  clear hoa hn3 hg3
  go_wp2_with fail
  refine (pnext_some w.heap.size [[103, 101, 116], [97, 32, 98]] [] Pl.wakSt 1 w3 HN3.out).mono ?_
  rintro e w4 ⟨⟨vb, rfl, hob⟩, hn4, hg4⟩
  have HOB := Pl.hid hob
  have HOA4 := Pl.hid (HOA.out.st hg4)
  have HN4 := Pl.hid hn4
  have HB4 : Hid (Below w.heap.size w w4) := HB3.out.grown hg4 HB3.out.size (fun k hk => by injection hk with hk; omega)
  clear hob hn4 hg4
  go_wp2_with fail
  refine (pnext_none w.heap.size Pl.wakSt 1 w4 HN4.out).mono ?_
  rintro e w4' ⟨rfl, rfl⟩
  go_wp2_with fail
  refine (sameTexts_eq _ _ [[71, 69, 84], [107]] _ (by decide) (HOA4.out.below ((Below.refl _ _).alloc (Nat.le_refl _) _)).rowT (Mm.rowT_alloc w4 [[71, 69, 84], [107]] 2 rfl)).mono ?_
  rintro e w5 ⟨rfl, hb5⟩
  have HB45 : Hid (Below w4.heap.size w4 w5) := ((Below.refl _ _).alloc (Nat.le_refl _) _).trans (hb5.mono (by simp))
  have HOB5 := Pl.hid (HOB.out.below HB45.out)
  have HN5 := Pl.hid (HN4.out.below HB45.out)
  have HB5 := Pl.hid (HB4.out.trans (HB45.out.mono HB4.out.size))
  clear hb5
  go_wp2_with fail
  refine (sameTexts_eq _ _ [[103, 101, 116], [97, 32, 98]] _ (by decide) (HOB5.out.below ((Below.refl _ _).alloc (Nat.le_refl _) _)).rowT (Mm.rowT_alloc w5 [[103, 101, 116], [97, 32, 98]] 2 rfl)).mono ?_
  rintro e w6 ⟨rfl, hb6⟩
  have HB56 : Hid (Below w5.heap.size w5 w6) := ((Below.refl _ _).alloc (Nat.le_refl _) _).trans (hb6.mono (by simp))
  have HN6 := Pl.hid (HN5.out.below HB56.out)
  have HB6 := Pl.hid (HB5.out.trans (HB56.out.mono HB5.out.size))
  clear hb6
  go_wp2_with fail
  refine (perr_walk w.heap.size [] Pl.wakSt 1 w6 HN6.out).mono ?_
  rintro e w6' ⟨⟨ev, rfl, he⟩, rfl⟩
  obtain rfl : ev = .nilIface := by
    rcases he with ⟨h, _⟩ | ⟨_, h⟩
    · cases h
    · exact h
  clear he
  go_wp2_with fail
  refine (pheld_walk w.heap.size [] Pl.wakSt 1 _ HN6.out (by decide) (by decide)).mono ?_
  rintro e w7 ⟨rfl, hb7⟩
  have HB7 := Pl.hid (HB6.out.trans (hb7.mono HB6.out.size))
  clear hb7
  go_wp2_with fail
  go_ret
  exact ⟨rfl, HB7.out⟩
end Go.Proofs.YtakldjdohgmeiaaDoor
