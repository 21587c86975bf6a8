/- Contracts of the law's sameBytes, same, roomy, kept. Conditions stand in each law. -/
import Derived.Test.YtijjodhkfpjihaaGreatDoorReqF
namespace Go.Proofs.YtijjodhkfpjihaaGreatDoor
open Go.RowKit
set_option maxRecDepth 20000

namespace Mm
open Pl
/-- a slice of bytes that came in -/
def BytesV (w : World) (v : Value) (l : List UInt8) : Prop :=
  ∃ p c, v = .slice p l.length c ∧ (l.length = 0 ∧ (p = none → c = 0) ∨ ∃ g o, p = some ⟨g, o, none⟩ ∧ g < w.heap.size ∧ BytesAt w g o l)
theorem BytesV.below {w w' : World} {v : Value} {l : List UInt8} (h : BytesV w v l) (hb : Below w.heap.size w w') : BytesV w' v l := by
  obtain ⟨p, c, hv, h0 | ⟨g, o, hp, hg, hm⟩⟩ := h
  · exact ⟨p, c, hv, .inl h0⟩
  · exact ⟨p, c, hv, .inr ⟨g, o, hp, Nat.lt_of_lt_of_le hg hb.size, hm.keep (hb.block g hg)⟩⟩
theorem BytesV.nil (w : World) : BytesV w (.slice none 0 0) [] := ⟨none, 0, rfl, .inl ⟨rfl, fun _ => rfl⟩⟩
theorem OwnB.bytesV {w : World} {b : Nat} {v : Value} {l : List UInt8} (h : OwnB w b v l) : BytesV w v l := by
  obtain ⟨a, c, rfl, h0 | ⟨g, rfl, _, hg, _⟩⟩ := h.val
  · exact ⟨_, _, rfl, .inl ⟨h0.1, fun _ => h0.2.2⟩⟩
  · exact ⟨_, _, rfl, .inr ⟨g, 0, rfl, hg, h.bytesAt⟩⟩
end Mm

/-- the same bytes are told to be the same -/
theorem sameBytes_eq (va vb : Value) (l : List UInt8) (w : World) (hl : l.length ≤ 9223372036854775807) (ha : Mm.BytesV w va l) (hb : Mm.BytesV w vb l) :
    Calls Tryz.prog 24 #[va, vb] w fun e w' => e = .returned (.bool true) ∧ Below w.heap.size w w' := by
  obtain ⟨pa, ca, rfl, ha⟩ := ha
  obtain ⟨pb, cb, rfl, hb⟩ := hb
  obtain ⟨n, hn⟩ : ∃ n, n = l.length := ⟨_, rfl⟩
  rw [← hn] at ha hb hl ⊢
  have HA := Pl.hid ha
  have HB := Pl.hid hb
  have HN := Pl.hid hn
  clear ha hb hn
  go_enter Tryz.func24, Tryz.ntmps24
  go_wp2_with fail
  go_loopw [5] (fun iv wr => ∃ i : Nat, iv = .int .i64 i ∧ i ≤ n ∧ Hid (Below w.heap.size w wr)) (fun iv _ => n - (intOf iv).toNat)
  case atStart => exact ⟨0, rfl, Nat.zero_le _, Below.refl _ _⟩
  case round =>
    obtain ⟨i, rfl, hi, HR⟩ := hrel
    rcases Nat.lt_or_ge i n with hlt | hge
    · rcases HA.out with ⟨h0, _⟩ | ⟨g, o, rfl, hg, hm⟩
      · omega
      rcases HB.out with ⟨h0, _⟩ | ⟨g', o', rfl, hg', hm'⟩
      · omega
      have hc := (HR.out.cell (p := ⟨g, o + i, none⟩) hg).trans (hm i (by rw [← HN.out]; exact hlt))
      have hc' := (HR.out.cell (p := ⟨g', o' + i, none⟩) hg').trans (hm' i (by rw [← HN.out]; exact hlt))
      have HX := Pl.hid hm
      have HX' := Pl.hid hm'
      clear hm hm'
      go_wp2_with fail
      go_quiet (fail)
      go_wp2_with fail
      go_roundw
      case rel => exact ⟨i + 1, by go_num, by omega, HR.out.trans (Mm.below_drewN _ _)⟩
      case measure => simp [intOf]; omega
    · go_wp2_with fail
      go_ret
      exact ⟨rfl, HR.out⟩
end Go.Proofs.YtijjodhkfpjihaaGreatDoor
