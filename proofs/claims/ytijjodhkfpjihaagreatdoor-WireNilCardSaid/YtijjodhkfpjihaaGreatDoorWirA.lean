/- A reply that came in, read through: 'within' tells some answer and turns nothing. Condition: the reply's memory reads as a finite tree. -/
import Derived.Test.YtijjodhkfpjihaaGreatDoorReqF
import Derived.ChangeArms
namespace Go.Proofs.YtijjodhkfpjihaaGreatDoor
open Go.RowKit
set_option maxRecDepth 20000

namespace Mm
/-- four cells that read as a reply, to a depth -/
def RepOK (W : World) : Nat → List Value → Prop
  | 0, _ => False
  | f + 1, cs => ∃ (k : Int) (s : ByteArray) (n : Int) (a : Option Addr) (len cap : Nat), cs = [.int .i64 k, .string s, .int .i64 n, .slice a len cap] ∧ len ≤ 9223372036854775807 ∧
      (len = 0 ∨ ∃ b o, a = some ⟨b, o, none⟩ ∧ b < W.heap.size ∧ ∀ i, i < len → ∃ c0 c1 c2 c3, W.cell? ⟨b, o + i * 4, none⟩ = some c0 ∧ W.cell? ⟨b, o + i * 4 + 1, none⟩ = some c1 ∧ W.cell? ⟨b, o + i * 4 + 2, none⟩ = some c2 ∧ W.cell? ⟨b, o + i * 4 + 3, none⟩ = some c3 ∧ RepOK W f [c0, c1, c2, c3])
end Mm

theorem within_walk (W : World) : ∀ (f : Nat) (cs : List Value), Mm.RepOK W f cs → ∀ (deep : Int) (w : World), 0 ≤ deep → deep ≤ 65536 → Below W.heap.size W w →
    Calls Tryz.prog 17 #[.agg cs.toArray, .int .i64 deep] w fun e w' => (∃ b, e = .returned (.bool b)) ∧ Below w.heap.size w w'
  | 0, _, h, _, _, _, _, _ => h.elim
  | f + 1, cs, h, deep, w, d0, d1, hb => by
    obtain ⟨k, s, n, a, len, cap, rfl, hlen, hel⟩ := h
    have IH := Pl.hid (within_walk W f)
    have HB := Pl.hid hb
    have HEL := Pl.hid hel
    clear hb hel
    go_enter Tryz.func17, Tryz.ntmps17
    go_wp2_with fail
    generalize hw1 : World.alloc w _ = w1
    have hc1 : w1.cell? ⟨w.heap.size, 3, none⟩ = some (.slice a len cap) := by rw [← hw1, World.cell?_alloc_mark]; rfl
    have HC1 := Pl.hid hc1
    have HS1 : Hid (w1.heap.size = w.heap.size + 1) := by show _ = _; rw [← hw1]; simp
    have HB1 : Hid (Below w.heap.size w w1) := by rw [← hw1]; exact (Below.refl _ _).alloc (Nat.le_refl _) _
    clear hw1 hc1
    obtain ⟨D, hD⟩ : ∃ D, D = decide (deep < 65536) := ⟨_, rfl⟩
    rw [← hD]
    have HD0 : Hid (D = true → deep < 65536) := fun h => of_decide_eq_true (hD.symm.trans h)
    clear hD
    go_loopw [5, 6] (fun bv iv wr => ∃ (b : Bool) (i : Nat), bv = .bool b ∧ iv = .int .i64 i ∧ i ≤ len ∧ Hid (b = true → deep < 65536) ∧ Hid (Below w1.heap.size w1 wr)) (fun _ iv _ => len - (intOf iv).toNat)
    case atStart => exact ⟨_, 0, rfl, rfl, Nat.zero_le _, HD0, Below.refl _ _⟩
    case round =>
      obtain ⟨b, i, rfl, rfl, hi, HD, HR⟩ := hrel
      have hcr : wr.cell? ⟨w.heap.size, 3, none⟩ = some (.slice a len cap) := (HR.out.cell (p := ⟨w.heap.size, 3, none⟩) (by rw [HS1.out]; exact Nat.lt_succ_self _)).trans HC1.out
      have HFin : Hid (Below w.heap.size w wr) := HB1.out.trans (HR.out.mono HB1.out.size)
      rcases Nat.lt_or_ge i len with hlt | hge
      · cases b with
        | false =>
          go_wp2_with fail
          go_ret
          exact ⟨⟨_, rfl⟩, HFin.out⟩
        | true =>
          have hd : deep < 65536 := HD.out rfl
          rcases HEL.out with h0 | ⟨bl, o, rfl, hbl, hel⟩
          · omega
          obtain ⟨c0, c1, c2, c3, e0, e1, e2, e3, hrep⟩ := hel i hlt
          have HBW : Hid (Below W.heap.size W wr) := HB.out.trans (HFin.out.mono HB.out.size)
          have f0 : wr.cell? ⟨bl, o + i * 4, none⟩ = some c0 := (HBW.out.cell (p := ⟨bl, o + i * 4, none⟩) hbl).trans e0
          have f1 : wr.cell? ⟨bl, o + i * 4 + 1, none⟩ = some c1 := (HBW.out.cell (p := ⟨bl, o + i * 4 + 1, none⟩) hbl).trans e1
          have f2 : wr.cell? ⟨bl, o + i * 4 + 2, none⟩ = some c2 := (HBW.out.cell (p := ⟨bl, o + i * 4 + 2, none⟩) hbl).trans e2
          have f3 : wr.cell? ⟨bl, o + i * 4 + 3, none⟩ = some c3 := (HBW.out.cell (p := ⟨bl, o + i * 4 + 3, none⟩) hbl).trans e3
          have HREP := Pl.hid hrep
          clear e0 e1 e2 e3 hrep hel
          go_wp2_with fail
          refine (IH.out _ HREP.out (deep + 1) _ (by omega) (by omega) HBW.out).mono ?_
          rintro e w2 ⟨⟨b2, rfl⟩, hb2⟩
          have H2 : Hid (Below w1.heap.size w1 w2) := HR.out.trans (hb2.mono HR.out.size)
          clear hb2
          go_wp2_with fail
          go_roundw
          case rel => exact ⟨b2, i + 1, rfl, by go_num, by omega, (fun _ => hd), H2⟩
          case measure => simp [intOf]; omega
      · go_wp2_with fail
        go_ret
        exact ⟨⟨_, rfl⟩, HFin.out⟩
end Go.Proofs.YtijjodhkfpjihaaGreatDoor
