/- A new parser that is fed the line PING: part, Feed, Next; the wire above it. Conditions stand in each law. -/
import Derived.Test.YtijjodhkfpjihaaGreatDoorWirF
namespace Go.Proofs.YtijjodhkfpjihaaGreatDoor
open Go.RowKit
set_option maxRecDepth 20000

namespace Mm
open Pl
theorem grown_trans {a b c : World} {r : Option Nat} (h : a.grownBy b r) (k : b.grownBy c r) : a.grownBy c r :=
  ⟨k.os.trans h.os, k.tape.trans h.tape, k.output.trans h.output, Nat.le_trans h.size k.size, fun i hi hn => (k.block i (Nat.lt_of_lt_of_le hi h.size) hn).trans (h.block i hi hn)⟩
theorem grown_below {a b : World} {r : Option Nat} (h : Below a.heap.size a b) : a.grownBy b r := ⟨h.os, h.tape, h.output, h.size, fun i hi _ => h.block i hi⟩
def sliceN : Value → Nat | .slice _ n _ => n | _ => 0
/-- what a parser is that has read PING, as it was in w0 -/
def Read (w0 : World) (p : Nat) (bv : Value) (w : World) : Prop :=
  ∃ gr cr wv, p < gr ∧ PF w p bv (.slice (some ⟨gr, 0, none⟩) 1 cr) ∧ w.cell? ⟨gr, 0, none⟩ = some wv ∧ (∃ b, p < b ∧ OwnS w b wv [[80, 73, 78, 71]]) ∧ w0.grownBy w (some p) ∧ 1 ≤ cr
theorem Read.below {w0 w w' : World} {p : Nat} {bv : Value} (h : Read w0 p bv w) (hb : Below w.heap.size w w') : Read w0 p bv w' := by
  obtain ⟨gr, cr, wv, h1, h2, h3, ⟨b, h4, h5⟩, h6, h7⟩ := h
  exact ⟨gr, cr, wv, h1, h2.below hb, (hb.cell (p := ⟨gr, 0, none⟩) (World.block_lt_of_cell? _ _ h3)).trans h3, ⟨b, h4, h5.below hb⟩, grown_trans h6 (grown_below hb), h7⟩
/-- the first field stored anew -/
theorem Read.store {w0 w w' : World} {p : Nat} {bv bv' : Value} (h : Read w0 p bv w) (hg : w.grownBy w' (some p)) (hp : ∀ rv, PF w p bv rv → PF w' p bv' rv) : Read w0 p bv' w' := by
  obtain ⟨gr, cr, wv, h1, h2, h3, ⟨b, h4, h5⟩, h6, h7⟩ := h
  refine ⟨gr, cr, wv, h1, hp _ h2, hg.cell h3 (fun e => by injection e with e; exact absurd e (Nat.ne_of_gt h1)), ⟨b, h4, h5.keep fun g0 hg0 => hg.block g0 (h5.lt g0 hg0).2 (fun e => ?_)⟩, grown_trans h6 hg, h7⟩
  injection e with e
  have := (h5.lt g0 hg0).1
  omega
end Mm

theorem part_empty (p : Nat) (a : Option Addr) (c : Nat) (w : World) :
    Calls Tryz.prog 32 #[.pointer (some ⟨p, 0, none⟩), .slice a 0 c] w fun e w' => e = .returned (.int .i64 0) ∧ w = w' := by
  go_enter Tryz.func32, Tryz.ntmps32
  go_wp2_with fail
  go_ret
  exact ⟨rfl, rfl⟩

theorem part_ping (p g c : Nat) (bv : Value) (w : World) (hc : 5 ≤ c) (h : Mm.BytesAt w g 0 Pl.pingL) (hg : g < w.heap.size) (hp : Mm.PF w p bv (.slice none 0 0)) :
    Calls Tryz.prog 32 #[.pointer (some ⟨p, 0, none⟩), .slice (some ⟨g, 0, none⟩) 5 c] w fun e w' => e = .returned (.int .i64 5) ∧ Mm.Read w p bv w' := by
  have q5 := hp.cell 5 _ rfl
  have q3 := hp.cell 3 _ rfl
  have g0 := h 0 (by decide)
  rw [Nat.add_zero, show Pl.at_ Pl.pingL 0 = 80 from rfl] at g0
  have HM := Pl.hid h
  have HP := Pl.hid hp
  have HG := Pl.hid hg
  clear h hp hg
  go_enter Tryz.func32, Tryz.ntmps32
  go_wp2_with fail
  refine (inline_ping p g c bv w hc HM.out HG.out HP.out).mono ?_
  rintro e w1 ⟨rfl, gr, cr, wv, h1, h2, h3, h4, h5, h6⟩
  have HR : Hid (Mm.Read w p bv w1) := ⟨gr, cr, wv, Nat.lt_of_lt_of_le HP.out.lt h1, h2, h3, ⟨_, HP.out.lt, h4⟩, h5, h6⟩
  clear h1 h2 h3 h4 h5 h6
  go_wp2_with fail
  go_ret
  exact ⟨rfl, HR.out⟩

theorem feed_ping (p g c : Nat) (w : World) (h : Mm.BytesAt w g 0 Pl.pingL) (hp : Mm.PF w p (.slice none 0 0) (.slice none 0 0)) :
    Calls Tryz.prog 11 #[.pointer (some ⟨p, 0, none⟩), .slice (some ⟨g, 0, none⟩) 5 c] w fun e w' => e = .returned (.int .i64 0) ∧ ∃ bv, Mm.Read w p bv w' := by
  have q7 := hp.cell 7 _ rfl
  have q0 := hp.cell 0 _ rfl
  have HM := Pl.hid h
  have HP := Pl.hid hp
  have HPl := Pl.hid hp.lt
  clear h hp
  go_enter Tryz.func11, Tryz.ntmps11
  go_wp2_with (at_builtin; refine Mm.wp_appB w rfl _ _ (by rfl) w.heap.size _ [] (by rfl) (Mm.ownB_nil _ _) g 0 c Pl.pingL 5 rfl (by rfl) HM.out (by decide) (Nat.le_refl _) ?_; intro v1 w1 hown1 hg1; refine Hid.out ?_)
  refine Pl.hid ?_
  obtain ⟨a1, c1, rfl, hv⟩ := hown1.val
  rw [show ([] ++ Pl.pingL : List UInt8).length = 5 from rfl] at hown1 hv ⊢
  rcases hv with ⟨h0, _⟩ | ⟨gb, rfl, hgb, hgs, hle⟩
  · cases h0
  have HO1 := Pl.hid hown1
  have HB1 : Hid (Below w.heap.size w w1) := (Below.refl _ _).grown hg1 (Nat.le_refl _) (fun k hk => by cases hk)
  have HP1 := Pl.hid (HP.out.below HB1.out)
  have HGB := Pl.hid hgb
  have HGS := Pl.hid hgs
  have hle5 : 5 ≤ c1 := hle
  clear hown1 hg1 q7 q0 hgb hgs hle
  go_wp2_with (first | (refine Mm.wp_storeF _ rfl 22 _ _ (by rfl) (by kernel_rfl) p 0 59 #[.slice none 0 0, .int .i64 0, .slice none 0 0, .int .i64 0, .int .i64 0, .int .i64 (-1), .slice none 0 0, .nilIface] (.slice (some ⟨gb, 0, none⟩) 5 c1) HP1.out (by rfl) (by rfl) (by simp) rfl rfl ?_; intro w2 h2 hz2 hg2; refine Hid.out ?_))
  refine Pl.hid ?_
  have HP2 : Hid (Mm.PF w2 p (.slice (some ⟨gb, 0, none⟩) 5 c1) (.slice none 0 0)) := h2
  have hpg : p < gb := Nat.lt_of_lt_of_le HPl.out HGB.out
  have HM2 : Hid (Mm.BytesAt w2 gb 0 Pl.pingL) := HO1.out.bytesAt.keep (hg2.block gb HGS.out (fun e => by injection e with e; exact absurd e (Nat.ne_of_gt hpg)))
  have HG2 : Hid (w.grownBy w2 (some p)) := Mm.grown_trans (Mm.grown_below HB1.out) hg2
  have HS2 : Hid (gb < w2.heap.size) := Nat.lt_of_lt_of_le HGS.out hg2.size
  have q0 := HP2.out.cell 0 _ rfl
  have HQ0 := Pl.hid q0
  clear h2 hz2 hg2 hpg
  go_wp2_with fail
  clear q0
  go_loopw [5, 6] (fun rv _ wr => (rv = .slice (some ⟨gb, 0, none⟩) 5 c1 ∧ wr = w2) ∨ (∃ a c', rv = .slice (some a) 0 c' ∧ Hid (Mm.Read w2 p (.slice (some ⟨gb, 0, none⟩) 5 c1) wr))) (fun rv _ _ => Mm.sliceN rv)
  case atStart => exact .inl ⟨rfl, rfl⟩
  case round =>
    rcases hrel with ⟨rfl, rfl⟩ | ⟨a, c', rfl, HR⟩
    · have q7 := HP2.out.cell 7 _ rfl
      go_wp2_with fail
      refine (part_ping p gb c1 _ _ hle5 HM2.out HS2.out HP2.out).mono ?_
      rintro e w3 ⟨rfl, hread⟩
      have HR3 := Pl.hid hread
      clear hread q7
      rcases Decidable.em (c1 = 5) with hc5 | hc5
      · subst hc5
        go_wp2_with fail
        go_roundw
        case rel => exact .inr ⟨_, _, rfl, HR3⟩
        case measure => simp [Mm.sliceN]
      · go_wp2_with fail
        go_roundw
        case rel => exact .inr ⟨_, _, rfl, HR3⟩
        case measure => simp [Mm.sliceN]
    · obtain ⟨gr, cr, wv, h1, h2, h3, h4, h5, h6⟩ := HR.out
      have q7 := h2.cell 7 _ rfl
      have q0 := h2.cell 0 _ rfl
      clear h1 h2 h3 h4 h5 h6
      go_wp2_with fail
      refine (part_empty p (some a) c' _).mono ?_
      rintro e w4 ⟨rfl, rfl⟩
      go_wp2_with (at_builtin; refine Mm.wp_appV wr rfl _ _ (by rfl) wr.heap.size _ [] (by rfl) (Mm.ownB_nil _ _) _ [] (by rfl) ⟨some a, c', rfl, .inl ⟨rfl, fun e => by cases e⟩⟩ (by decide) (Nat.le_refl _) ?_; intro v5 w5 hown5 hg5; refine Hid.out ?_)
      refine Pl.hid ?_
      obtain ⟨a5, c5, rfl, _⟩ := hown5.val
      have HR5 := Pl.hid (HR.out.below ((Below.refl _ _).grown hg5 (Nat.le_refl _) (fun k hk => by cases hk)))
      clear hown5 hg5 q7 q0
      obtain ⟨gr5, cr5, wv5, h1, h2, h3, h4, h5, h6⟩ := HR5.out
      have H2 := Pl.hid h2
      clear h1 h2 h3 h4 h5 h6
      go_wp2_with (first | (refine Mm.wp_storeF _ rfl 22 _ _ (by rfl) (by kernel_rfl) p 0 59 #[.slice (some ⟨gb, 0, none⟩) 5 c1, .int .i64 0, .slice none 0 0, .int .i64 0, .int .i64 0, .int .i64 (-1), .slice (some ⟨gr5, 0, none⟩) 1 cr5, .nilIface] _ H2.out (by rfl) (by rfl) (by simp) rfl rfl ?_; intro w6 h6 hz6 hg6; refine Hid.out ?_))
      refine Pl.hid ?_
      have HP6 : Hid (Mm.PF w6 p (.slice a5 ([] ++ [] : List UInt8).length c5) (.slice (some ⟨gr5, 0, none⟩) 1 cr5)) := h6
      have HR6 : Hid (Mm.Read w2 p (.slice a5 ([] ++ [] : List UInt8).length c5) w6) := HR5.out.store hg6 (fun rv hrv => by
        have e := (Option.some.inj (H2.out.symm.trans hrv))
        injection e with e
        have e2 := congrArg (fun x : Array Value => x[6]?) e
        simp at e2
        subst e2
        exact HP6.out)
      have q7 := HP6.out.cell 7 _ rfl
      clear h6 hz6 hg6
      go_wp2_with fail
      go_ret
      obtain ⟨gr, cr, wv, k1, k2, k3, k4, k5, k6⟩ := HR6.out
      exact ⟨rfl, _, gr, cr, wv, k1, k2, k3, k4, Mm.grown_trans HG2.out k5, k6⟩

theorem next_ping (w0 : World) (p : Nat) (bv : Value) (w : World) (h : Mm.Read w0 p bv w) :
    Calls Tryz.prog 12 #[.pointer (some ⟨p, 0, none⟩)] w fun e w' => (∃ wv b, e = .returned (.tuple #[wv, .bool true]) ∧ Mm.OwnS w' b wv [[80, 73, 78, 71]]) ∧ w.grownBy w' (some p) := by
  obtain ⟨gr, cr, wv, h1, h2, h3, ⟨b, h4, h5⟩, _, h7⟩ := h
  obtain ⟨wa, wc, rfl, _⟩ := h5.val
  rw [show ([[80, 73, 78, 71]] : List (List UInt8)).length = 1 from rfl] at h5 h3
  have q6 := h2.cell 6 _ rfl
  have H2 := Pl.hid h2
  have H5 := Pl.hid h5
  have hcz : ¬ cr = 0 := by omega
  clear h2 h5 h7
  go_enter Tryz.func12, Tryz.ntmps12
  rcases Decidable.em (cr = 1) with hc1 | hc1
  · subst hc1
    go_wp2_with (first | (refine Mm.wp_storeF _ rfl 57 _ _ (by rfl) (by kernel_rfl) p 6 59 #[bv, .int .i64 0, .slice none 0 0, .int .i64 0, .int .i64 0, .int .i64 (-1), .slice (some ⟨gr, 0, none⟩) 1 1, .nilIface] _ H2.out (by rfl) (by rfl) (by simp) rfl rfl ?_; intro w6 h6 hz6 hg6; refine Hid.out ?_))
    refine Pl.hid ?_
    have HG := Pl.hid hg6
    clear h6 hz6 hg6 q6
    go_wp2_with fail
    go_ret2
    exact ⟨⟨_, b, rfl, H5.out.keep fun g0 hg0 => HG.out.block g0 (H5.out.lt g0 hg0).2 (fun e => by injection e with e; have := (H5.out.lt g0 hg0).1; omega)⟩, HG.out⟩
  · go_wp2_with (first | (refine Mm.wp_storeF _ rfl 57 _ _ (by rfl) (by kernel_rfl) p 6 59 #[bv, .int .i64 0, .slice none 0 0, .int .i64 0, .int .i64 0, .int .i64 (-1), .slice (some ⟨gr, 0, none⟩) 1 cr, .nilIface] _ H2.out (by rfl) (by rfl) (by simp) rfl rfl ?_; intro w6 h6 hz6 hg6; refine Hid.out ?_))
    refine Pl.hid ?_
    have HG := Pl.hid hg6
    clear h6 hz6 hg6 q6
    go_wp2_with fail
    go_ret2
    exact ⟨⟨_, b, rfl, H5.out.keep fun g0 hg0 => HG.out.block g0 (H5.out.lt g0 hg0).2 (fun e => by injection e with e; have := (H5.out.lt g0 hg0).1; omega)⟩, HG.out⟩

/-! the wire above it -/
/-- a wire on which nothing is wrong, above the parser p -/
def Mm.WF (w : World) (q p : Nat) : Prop := w.heap[q]? = some (.cells #[.pointer (some ⟨p, 0, none⟩), .slice none 0 0, .bool false, .bool false] 44 (0, 0))
theorem Mm.WF.cell {w : World} {q p : Nat} (h : Mm.WF w q p) (i : Nat) (v : Value) (hv : (#[.pointer (some ⟨p, 0, none⟩), .slice none 0 0, .bool false, .bool false] : Array Value)[i]? = some v) : w.cell? ⟨q, i, none⟩ = some v := by
  rw [cell_of_row w q i _ _ _ h]
  exact hv

theorem wnew_walk (w : World) : Calls Tryz.prog 4 #[] w fun e w' => e = .returned (.pointer (some ⟨w.heap.size + 1, 0, none⟩)) ∧ Mm.WF w' (w.heap.size + 1) w.heap.size ∧ Mm.PF w' w.heap.size (.slice none 0 0) (.slice none 0 0) ∧ w'.heap.size = w.heap.size + 2 ∧ Below w.heap.size w w' := by
  go_enter Tryz.func4, Tryz.ntmps4
  go_wp2_with fail
  refine (new_walk w).mono ?_
  rintro e w1 ⟨rfl, hp, hz, hb⟩
  have HP := Pl.hid hp
  have HZ := Pl.hid hz
  have HB := Pl.hid hb
  clear hp hz hb
  go_wp2_with fail
  go_ret
  refine ⟨by rw [HZ.out]; rfl, ?_, ?_, by simp [HZ.out], HB.out.alloc HB.out.size _⟩
  · unfold Mm.WF
    rw [← HZ.out]
    exact heap_alloc_new w1 _
  · exact HP.out.below ((Below.refl _ _).alloc (Nat.le_refl _) _)

theorem wfeed_ping (q p g c : Nat) (w : World) (hw : Mm.WF w q p) (hne : q ≠ p) (h : Mm.BytesAt w g 0 Pl.pingL) (hp : Mm.PF w p (.slice none 0 0) (.slice none 0 0)) :
    Calls Tryz.prog 5 #[.pointer (some ⟨q, 0, none⟩), .slice (some ⟨g, 0, none⟩) 5 c] w fun e w' => e = .returned (.int .i64 0) ∧ ∃ bv, Mm.Read w p bv w' ∧ Mm.WF w' q p := by
  have q0 := hw.cell 0 _ rfl
  have q2 := hw.cell 2 _ rfl
  have HW := Pl.hid hw
  have HM := Pl.hid h
  have HP := Pl.hid hp
  clear hw h hp
  go_enter Tryz.func5, Tryz.ntmps5
  go_wp2_with fail
  refine (feed_ping p g c w HM.out HP.out).mono ?_
  rintro e w1 ⟨rfl, bv, hr⟩
  have HR := Pl.hid hr
  clear hr
  go_wp2_with fail
  go_ret
  obtain ⟨gr, cr, wv, k1, k2, k3, k4, k5, k6⟩ := HR.out
  exact ⟨rfl, bv, ⟨gr, cr, wv, k1, k2, k3, k4, k5, k6⟩, (k5.block q (Array.getElem?_eq_some_iff.1 HW.out).1 (fun e => by injection e with e; exact hne e)).trans HW.out⟩

theorem wnext_ping (w0 : World) (q p : Nat) (bv : Value) (w : World) (hw : Mm.WF w q p) (h : Mm.Read w0 p bv w) :
    Calls Tryz.prog 6 #[.pointer (some ⟨q, 0, none⟩)] w fun e w' => (∃ wv b, e = .returned (.tuple #[wv, .bool true]) ∧ Mm.OwnS w' b wv [[80, 73, 78, 71]]) ∧ w.grownBy w' (some p) := by
  have q0 := hw.cell 0 _ rfl
  have q2 := hw.cell 2 _ rfl
  have HR := Pl.hid h
  clear hw h
  go_enter Tryz.func6, Tryz.ntmps6
  go_wp2_with fail
  refine (next_ping w0 p bv w HR.out).mono ?_
  rintro e w1 ⟨⟨wv, b, rfl, ho⟩, hg⟩
  have HO := Pl.hid ho
  have HG := Pl.hid hg
  clear ho hg
  go_wp2_with fail
  go_ret2
  exact ⟨⟨wv, b, rfl, HO.out⟩, HG.out⟩
end Go.Proofs.YtijjodhkfpjihaaGreatDoor
