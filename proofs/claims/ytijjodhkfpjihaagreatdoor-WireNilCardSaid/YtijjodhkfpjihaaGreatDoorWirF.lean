/- A new parser and the line PING: request's New, line, inline, part, Feed, Next. Conditions stand in each law. -/
import Derived.Test.YtijjodhkfpjihaaGreatDoorWirD
import Derived.Test.YtijjodhkfpjihaaGreatDoorShelfB
namespace Go.Proofs.YtijjodhkfpjihaaGreatDoor
open Go.RowKit
set_option maxRecDepth 20000

theorem Tryz.info_strs : (Tryz.prog.info? 32).map (fun i => (i.zero, i.size, i.bytes)) = some (some (.slice none 0 0), 1, 24) := by kernel_rfl

namespace Mm
open Pl
/-- 'append(ready, words)' -/
theorem wp_app1R {ops : Array Oper} {rest : List Oper} {o : Oper} {a : Act} {Q : Exit → Act → World → Prop} (w : World) (hgd : o.guard = none) (x y : Operand)
    (ho : o.op = .call { callee := .builtin .append, args := #[x, y], argTypes := #[57, 57] })
    (base : Nat) (v : Value) (l : List Value) (sl : Option Addr) (sn sc : Nat) (hx : a.eval x = v) (hy : a.eval y = .slice (some ⟨w.heap.size, 0, none⟩) 1 1) (h : w.ownsRow base 32 1 v l.length l) (hl : l.length < 4398046511104) (hbase : base ≤ w.heap.size)
    (hK : ∀ v' w', w'.ownsRow base 32 1 v' (l ++ [Value.slice sl sn sc]).length (l ++ [Value.slice sl sn sc]) → (w.alloc (.cells #[.slice sl sn sc] 32)).grownBy w' v.ownBlock → wpList Tryz.prog ops Q rest (a.put o.dst v') w') :
    wpList Tryz.prog ops Q (o :: rest) a (w.alloc (.cells #[.slice sl sn sc] 32)) := by
  obtain ⟨i0, hi, hz0, hz1, hz2⟩ := info_parts Tryz.info_strs
  refine wpList_append_own _ hgd x y 57 ho base 32 i0 (.slice none 0 0) 1 24 Tryz.underlying57 hi hz0 hz1 hz2 rfl (by decide) v l.length l hx (h.alloc _) ⟨w.heap.size, 0, none⟩ 1 1 [.slice sl sn sc] hy rfl ?_ ?_ ?_ ?_ ?_ ?_
  · intro j u hj
    match j, hj with
    | 0, hj =>
      simp at hj
      subst hj
      simp [Addr.add]
  · intro u hu
    simp at hu
    subst hu
    rfl
  · unfold maxLen; omega
  · omega
  · simp; omega
  · intro v' w' h1 h2 _
    exact hK v' w' (by rw [List.length_append]; exact h1) h2
/-- a parser on which nothing is under way -/
def PF (w : World) (p : Nat) (bv rv : Value) : Prop := w.heap[p]? = some (.cells #[bv, .int .i64 0, .slice none 0 0, .int .i64 0, .int .i64 0, .int .i64 (-1), rv, .nilIface] 59 (0, 0))
theorem PF.lt {w : World} {p : Nat} {bv rv : Value} (h : PF w p bv rv) : p < w.heap.size := (Array.getElem?_eq_some_iff.1 h).1
theorem PF.cell {w : World} {p : Nat} {bv rv : Value} (h : PF w p bv rv) (i : Nat) (v : Value) (hv : (#[bv, .int .i64 0, .slice none 0 0, .int .i64 0, .int .i64 0, .int .i64 (-1), rv, .nilIface] : Array Value)[i]? = some v) : w.cell? ⟨p, i, none⟩ = some v := by
  rw [cell_of_row w p i _ _ _ h]
  exact hv
theorem PF.below {w w' : World} {p : Nat} {bv rv : Value} (h : PF w p bv rv) (hb : Below w.heap.size w w') : PF w' p bv rv := (hb.block p h.lt).trans h
end Mm

namespace Pl
def pingL : List UInt8 := [80, 73, 78, 71, 10]
def pingS : ByteArray := ⟨#[80, 73, 78, 71]⟩
theorem ping_index : Lib.indexByte (Lib.bytesOf [80, 73, 78, 71, 10]) (10 : Int).toNat.toUInt8 = 4 := by decide +kernel
theorem ping_trim (g : Nat) : Lib.trimSuffixV (some ⟨g, 0, none⟩) 4 4 [80, 73, 78, 71] [13] = .slice (some ⟨g, 0, none⟩) 4 4 := by
  show Lib.bytesTrimSuffix g 0 4 4 [80, 73, 78, 71] [13] = _
  unfold Lib.bytesTrimSuffix
  rw [if_neg (by decide +kernel)]
theorem ping_inl : inl 6 (L pingS) [] = (0, [[80, 73, 78, 71]]) := by decide +kernel
end Pl

theorem Mm.OwnS.base {w : World} {b b' : Nat} {v : Value} {l : List (List UInt8)} (h : Mm.OwnS w b v l) (hb : b' ≤ b) : Mm.OwnS w b' v l := by
  obtain ⟨hl, h0 | ⟨g, cap, cur, hv, hg, r⟩⟩ := h
  · exact ⟨hl, .inl h0⟩
  · exact ⟨hl, .inr ⟨g, cap, cur, hv, Nat.le_trans hb hg, r⟩⟩

theorem new_walk (w : World) : Calls Tryz.prog 10 #[] w fun e w' => e = .returned (.pointer (some ⟨w.heap.size, 0, none⟩)) ∧ Mm.PF w' w.heap.size (.slice none 0 0) (.slice none 0 0) ∧ w'.heap.size = w.heap.size + 1 ∧ Below w.heap.size w w' := by
  go_enter Tryz.func10, Tryz.ntmps10
  go_wp2_with fail
  go_ret
  exact ⟨rfl, heap_alloc_new w _, by simp, (Below.refl _ _).alloc (Nat.le_refl _) _⟩

theorem line_ping (p g c : Nat) (w : World) (hc : 5 ≤ c) (h : Mm.BytesAt w g 0 Pl.pingL) :
    Calls Tryz.prog 55 #[.pointer (some ⟨p, 0, none⟩), .slice (some ⟨g, 0, none⟩) 5 c, .int .i64 4096] w fun e w' => e = .returned (.tuple #[.slice (some ⟨g, 0, none⟩) 4 4, .bool true]) ∧ w = w' := by
  have hx : Hid (∀ i, i < 5 → w.cell? ⟨g, 0 + i, none⟩ = some (.int .u8 (([80, 73, 78, 71, 10] : List Int).getD i 0))) := fun i hi => by
    rw [h i hi]
    match i, hi with
    | 0, _ => rfl
    | 1, _ => rfl
    | 2, _ => rfl
    | 3, _ => rfl
    | 4, _ => rfl
  clear h
  have hcz : ¬ c = 0 := by omega
  go_enter Tryz.func55, Tryz.ntmps55
  go_wp2_with fail
  refine (Tryz.bytes_IndexByte g 0 5 c [80, 73, 78, 71, 10] 10 w rfl hx.out).mono ?_
  rw [Pl.ping_index]
  rintro e w1 ⟨rfl, rfl⟩
  go_wp2_with fail
  go_ret2
  exact ⟨rfl, rfl⟩

theorem inline_ping (p g c : Nat) (bv : Value) (w : World) (hc : 5 ≤ c) (h : Mm.BytesAt w g 0 Pl.pingL) (hg : g < w.heap.size) (hp : Mm.PF w p bv (.slice none 0 0)) :
    Calls Tryz.prog 43 #[.pointer (some ⟨p, 0, none⟩), .slice (some ⟨g, 0, none⟩) 5 c] w fun e w' => e = .returned (.int .i64 5) ∧
      ∃ gr cr wv, w.heap.size ≤ gr ∧ Mm.PF w' p bv (.slice (some ⟨gr, 0, none⟩) 1 cr) ∧ w'.cell? ⟨gr, 0, none⟩ = some wv ∧ Mm.OwnS w' w.heap.size wv [[80, 73, 78, 71]] ∧ w.grownBy w' (some p) ∧ 1 ≤ cr := by
  have HM := Pl.hid h
  have HP := Pl.hid hp
  have HG := Pl.hid hg
  have HPl := Pl.hid hp.lt
  clear h hp hg
  go_enter Tryz.func43, Tryz.ntmps43
  go_wp2_with fail
  refine (line_ping p g c w hc HM.out).mono ?_
  rintro e v1 ⟨rfl, rfl⟩
  have HB1 := Pl.hid ((Below.refl w.heap.size w).alloc (Nat.le_refl _) (.cells #[.int .u8 13] 5))
  have HX1 : Hid (Lib.BytesIn (w.alloc (.cells #[.int .u8 13] 5)) (some ⟨g, 0, none⟩) 4 [80, 73, 78, 71]) := fun _ => ⟨g, 0, rfl, fun i hi => by
    rw [HB1.out.cell (p := ⟨g, 0 + i, none⟩) HG.out, HM.out i (by show i < 5; omega)]
    match i, hi with
    | 0, _ => rfl
    | 1, _ => rfl
    | 2, _ => rfl
    | 3, _ => rfl⟩
  have HX2 : Hid (Lib.BytesIn (w.alloc (.cells #[.int .u8 13] 5)) (some ⟨w.heap.size, 0, none⟩) 1 [13]) := fun _ => ⟨w.heap.size, 0, rfl, fun i hi => by
    rw [World.cell?_alloc_mark]
    match i, hi with
    | 0, _ => rfl⟩
  go_wp2_with fail
  refine (Tryz.bytes_TrimSuffix_all _ _ 4 4 1 1 [80, 73, 78, 71] [13] _ rfl rfl (by decide) (by decide) HX1.out HX2.out).mono ?_
  rw [Pl.ping_trim]
  rintro e v1 ⟨rfl, rfl⟩
  generalize hw1 : w.alloc (.cells #[.int .u8 13] 5) = w1 at HB1 HX1 HX2 ⊢
  have hcv : (convert 22 9 (.slice (some ⟨g, 0, none⟩) 4 4)).run Tryz.prog w1 = .ok (.string Pl.pingS) w1 :=
    run_convert_bytes_back w1 22 9 5 ⟨g, 0, none⟩ 4 [80, 73, 78, 71] Tryz.underlying22 Tryz.underlying5 Tryz.underlying9 (fun j hj => by
      have e : (⟨g, 0, none⟩ : Addr).add j = ⟨g, j, none⟩ := by unfold Addr.add; split <;> simp_all
      obtain ⟨b', o', e1, hcl⟩ := HX1.out (by decide)
      injection e1 with e1
      injection e1 with e1 e2
      subst e1 e2
      have := hcl j hj
      rw [Nat.zero_add] at this
      rw [e, this]
      match j, hj with
      | 0, _ => rfl
      | 1, _ => rfl
      | 2, _ => rfl
      | 3, _ => rfl)
  clear hw1
  go_wp2_with fail
  refine (inline_ok Pl.pingS 6 [[80, 73, 78, 71]] w1 (by decide) Pl.ping_inl).mono ?_
  rintro e w2 ⟨wv, rfl, hown, hb2⟩
  obtain ⟨wa, wc, rfl, hwa⟩ := hown.val
  rw [show ([[80, 73, 78, 71]] : List (List UInt8)).length = 1 from rfl] at hown hwa ⊢
  have HO2 := Pl.hid hown
  have HB2 := Pl.hid (HB1.out.trans (hb2.mono HB1.out.size))
  have HW2 := Pl.hid hb2
  have HP2 := Pl.hid (HP.out.below HB2.out)
  have hready := HP2.out.cell 6 _ rfl
  have HWA := Pl.hid hwa
  clear hown hb2 hwa hcv
  go_wp2_with (at_builtin; refine Mm.wp_app1R w2 rfl _ _ (by rfl) w2.heap.size _ [] _ _ _ (by rfl) (by rfl) (World.ownsRow_nil w2 w2.heap.size 32 1) (by decide) (Nat.le_refl _) ?_; intro v3 w3 hown3 hg3; refine Hid.out ?_)
  refine Pl.hid ?_
  have HO3 := Pl.hid hown3
  have HB3 := Pl.hid (((Below.refl w2.heap.size w2).alloc (Nat.le_refl _) (.cells #[.slice wa 1 wc] 32)).grown hg3 (by simp) (fun k hk => by cases hk))
  clear hown3 hg3
  have HP3 := Pl.hid (HP2.out.below HB3.out)
  have HO2' := Pl.hid (HO2.out.below HB3.out)
  obtain ⟨gr, cr, rfl, hgr, hrow, hle⟩ : ∃ gr cr, v3 = .slice (some ⟨gr, 0, none⟩) 1 cr ∧ w2.heap.size ≤ gr ∧ w3.cell? ⟨gr, 0, none⟩ = some (.slice wa 1 wc) ∧ 1 ≤ cr := by
    have hcell := fun g hg => HO3.out.cells (g := g) hg 0 (.slice wa 1 wc) rfl
    rcases HO3.out.2 with ⟨_, h0⟩ | ⟨gr, cr, cur, rfl, hgr, hh, hle, _⟩
    · cases h0
    · have h0 := hcell gr rfl
      exact ⟨gr, cr, rfl, hgr, h0, hle⟩
  have HGR := Pl.hid hgr
  have HROW := Pl.hid hrow
  have HLE := Pl.hid hle
  clear hgr hrow hle hready
  go_wp2_with (first | (refine Mm.wp_storeF _ rfl 57 _ _ (by rfl) (by kernel_rfl) p 6 59 #[bv, .int .i64 0, .slice none 0 0, .int .i64 0, .int .i64 0, .int .i64 (-1), .slice none 0 0, .nilIface] (.slice (some ⟨gr, 0, none⟩) 1 cr) HP3.out (by rfl) (by rfl) (by simp) rfl rfl ?_; intro w4 h4 hz4 hg4))
  have HP4 : Hid (Mm.PF w4 p bv (.slice (some ⟨gr, 0, none⟩) 1 cr)) := h4
  have HG4 := Pl.hid hg4
  clear h4 hz4 hg4
  go_ret
  have hps : p < gr := Nat.lt_of_lt_of_le HPl.out (Nat.le_trans HB2.out.size HGR.out)
  have hg23 : w.grownBy w3 (some p) := ⟨HB3.out.os.trans HB2.out.os, HB3.out.tape.trans HB2.out.tape, HB3.out.output.trans HB2.out.output, Nat.le_trans HB2.out.size HB3.out.size, fun k hk _ => (HB3.out.block k (Nat.lt_of_lt_of_le hk HB2.out.size)).trans (HB2.out.block k hk)⟩
  refine ⟨rfl, gr, cr, .slice wa 1 wc, Nat.le_trans HB2.out.size HGR.out, HP4.out, HG4.out.cell HROW.out (fun e => by injection e with e; exact absurd e (Nat.ne_of_gt hps)), ?_, ?_, HLE.out⟩
  · refine (HO2'.out.keep fun g0 hg0 => HG4.out.block g0 ?_ ?_).base (by have := HB1.out.size; exact this)
    · exact Nat.lt_of_lt_of_le (HO2.out.lt g0 hg0).2 HB3.out.size
    · intro e
      injection e with e
      have h1 := (HO2.out.lt g0 hg0).1
      have h2 := HPl.out
      have h3 := HB1.out.size
      omega
  · exact ⟨HG4.out.os.trans hg23.os, HG4.out.tape.trans hg23.tape, HG4.out.output.trans hg23.output, Nat.le_trans hg23.size HG4.out.size, fun k hk hne => (HG4.out.block k (Nat.lt_of_lt_of_le hk hg23.size) hne).trans (hg23.block k hk hne)⟩
end Go.Proofs.YtijjodhkfpjihaaGreatDoor
