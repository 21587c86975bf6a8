/- reply's lay of a bulk, and of an array of bulks. Conditions stand in each law. -/
import Derived.Test.YtakldjdohgmeiaaDoorRepA
import Derived.Test.YtakldjdohgmeiaaDoorParI
import Derived.Lib.AppendStr
namespace Go.Proofs.YtakldjdohgmeiaaDoor
open Go.RowKit
set_option maxRecDepth 20000

namespace Pl
def crlf : List UInt8 := [13, 10]
def bulkE (s : List UInt8) : List UInt8 := [36] ++ Lib.decDigits s.length ++ crlf ++ s ++ crlf
def reqE (ws : List (List UInt8)) : List UInt8 := [42] ++ Lib.decDigits ws.length ++ crlf ++ ws.flatMap bulkE
theorem dec_len (n : Nat) (h : n ≤ 9223372036854775807) : (Lib.decDigits n).length ≤ 21 := by
  have := itoa_le (n : Int) (by unfold In64; omega)
  rwa [itoa_pos (by omega)] at this
end Pl
namespace Mm
open Pl
def isU8 (o : Obj) : Prop := ∃ cs fr, o = .cells cs 5 fr
/-- what is no row of bytes stays -/
def NB (w w' : World) : Prop := ∀ (g : Nat) (o : Obj), w.heap[g]? = some o → ¬ isU8 o → w'.heap[g]? = some o
theorem NB.refl (w : World) : NB w w := fun _ _ h _ => h
theorem NB.trans {a b c : World} (h : NB a b) (k : NB b c) : NB a c := fun g o hg hn => k g o (h g o hg hn) hn
theorem NB.below {w w' : World} (h : Below w.heap.size w w') : NB w w' := fun g _ hg _ => (h.block g (Array.getElem?_eq_some_iff.1 hg).1).trans hg
theorem NB.own {w w' : World} {b : Nat} {v : Value} {l : List UInt8} (h : OwnB w b v l) (hg : w.grownBy w' v.ownBlock) : NB w w' := fun g o hgo hn => by
  refine (hg.block g (Array.getElem?_eq_some_iff.1 hgo).1 (fun e => ?_)).trans hgo
  rcases h.2 with ⟨rfl, _⟩ | ⟨g', cap, cur, rfl, _, hh, _⟩
  · cases e
  · injection e with e
    subst e
    rw [hgo] at hh
    injection hh with hh
    exact hn ⟨_, _, hh⟩
/-- 'append(b, c)' -/
theorem wp_app1N {ops : Array Oper} {rest : List Oper} {o : Oper} {a : Act} {Q : Exit → Act → World → Prop} (w : World) (hgd : o.guard = none) (x y : Operand)
    (ho : o.op = .call { callee := .builtin .append, args := #[x, y], argTypes := #[24, 24] })
    (base : Nat) (v : Value) (l : List UInt8) (c : UInt8) (hx : a.eval x = v) (hy : a.eval y = .slice (some ⟨w.heap.size, 0, none⟩) 1 1) (h : OwnB w base v l) (hl : l.length < 140737488355328) (hbase : base ≤ w.heap.size)
    (hK : ∀ v' w', OwnB w' base v' (l ++ [c]) → Below base w w' → NB w w' → wpList Tryd.prog ops Q rest (a.put o.dst v') w') :
    wpList Tryd.prog ops Q (o :: rest) a (w.alloc (.cells #[.int .u8 c.toNat] 5)) := by
  obtain ⟨i0, hi, hz0, hz1, hz2⟩ := info_parts Tryd.info_u8
  refine wpList_append_own _ hgd x y 24 ho base 5 i0 (.int .u8 0) 1 1 Tryd.underlying24 hi hz0 hz1 hz2 rfl (by decide) v l.length (bytesV l) hx (h.alloc _) ⟨w.heap.size, 0, none⟩ 1 1 [byteV c] hy rfl (cell_one_new _ _ _) ?_ ?_ ?_ ?_ ?_
  · intro u hu
    simp at hu
    subst hu
    rfl
  · unfold maxLen; omega
  · omega
  · simp; omega
  · intro v' w' h1 h2 _
    exact hK v' w' (by unfold OwnB; rw [bytesV_append, List.length_append]; exact h1) (((Below.refl _ _).alloc hbase _).grown h2 (by simp; omega) (fun k hk => (h.lt k hk).1))
      ((NB.below ((Below.refl _ _).alloc (Nat.le_refl _) _)).trans (NB.own (h.alloc _) h2))
/-- 'append(b, s...)', s a text -/
theorem wp_appSN {ops : Array Oper} {rest : List Oper} {o : Oper} {a : Act} {Q : Exit → Act → World → Prop} (w : World) (hgd : o.guard = none) (x y : Operand)
    (ho : o.op = .call { callee := .builtin .append, args := #[x, y], argTypes := #[24, 9] })
    (base : Nat) (v : Value) (l : List UInt8) (s : ByteArray) (hx : a.eval x = v) (hy : a.eval y = .string s) (h : OwnB w base v l) (hl : l.length + s.size ≤ 140737488355328) (hbase : base ≤ w.heap.size)
    (hK : ∀ v' w', OwnB w' base v' (l ++ L s) → Below base w w' → NB w w' → wpList Tryd.prog ops Q rest (a.put o.dst v') w') : wpList Tryd.prog ops Q (o :: rest) a w := by
  obtain ⟨i0, hi, hz0, hz1, hz2⟩ := info_parts Tryd.info_u8
  refine Lib.wpList_append_own_string _ hgd x y 24 9 ho base 5 i0 Tryd.underlying24 Tryd.underlying9 hi hz0 hz1 hz2 v l.length (bytesV l) hx h s hy (by unfold maxLen; omega) hl hbase ?_
  intro v' w' h1 h2 _
  refine hK v' w' ?_ ((Below.refl _ _).grown h2 hbase (fun k hk => (h.lt k hk).1)) (NB.own h h2)
  unfold OwnB
  rw [bytesV_append, List.length_append, L_length]
  exact h1
end Mm

theorem sign_4 (w : World) : Calls Tryd.prog 60 #[.int .i64 4] w fun e w' => e = .returned (.int .u8 36) ∧ w = w' := by
  go_enter Tryd.func60, Tryd.ntmps60
  go_wp2_with fail
  go_ret
  exact ⟨rfl, rfl⟩
theorem sign_6 (w : World) : Calls Tryd.prog 60 #[.int .i64 6] w fun e w' => e = .returned (.int .u8 42) ∧ w = w' := by
  go_enter Tryd.func60, Tryd.ntmps60
  go_wp2_with fail
  go_ret
  exact ⟨rfl, rfl⟩

set_option maxHeartbeats 4000000 in
theorem lay_bulk (s : ByteArray) (la : Option Addr) (lc base : Nat) (v : Value) (l : List UInt8) (W w : World) (hT : Mm.Tab W) (hW : Below W.heap.size W w) (hWb : W.heap.size ≤ base) (hb : base ≤ w.heap.size) (ho : Mm.OwnB w base v l) (hl : l.length ≤ 1099511627776) (hs : s.size ≤ 1099511627776) :
    Calls Tryd.prog 48 #[v, .agg #[.int .i64 4, .string s, .int .i64 0, .slice la 0 lc]] w fun e w' => ∃ v', e = .returned v' ∧ Mm.OwnB w' base v' (l ++ Pl.bulkE (Pl.L s)) ∧ Below base w w' ∧ Mm.NB w w' := by
  obtain ⟨p, hp⟩ : ∃ p, p = w.heap.size := ⟨_, rfl⟩
  obtain ⟨w0, hw0⟩ : ∃ w0, w0 = w.alloc (.cells #[.int .i64 4, .string s, .int .i64 0, .slice la 0 lc] 31) := ⟨_, rfl⟩
  have HP0 : Hid (w0.heap[p]? = some (.cells #[.int .i64 4, .string s, .int .i64 0, .slice la 0 lc] 31 (0, 0))) := by
    show _ = _
    rw [hw0, hp]
    exact heap_alloc_new w _
  have HB0 : Hid (Below w.heap.size w w0) := by rw [hw0]; exact (Below.refl _ _).alloc (Nat.le_refl _) _
  have HS0 : Hid (w0.heap.size = w.heap.size + 1) := by show _ = _; rw [hw0]; simp
  have hnu : ¬ Mm.isU8 (.cells #[.int .i64 4, .string s, .int .i64 0, .slice la 0 lc] 31 (0, 0)) := by
    rintro ⟨cs, fr, e⟩
    injection e with _ e _
    exact absurd e (by decide)
  have HK : Hid (∀ V, Mm.NB w0 V → V.cell? ⟨p, 0, none⟩ = some (.int .i64 4) ∧ V.cell? ⟨p, 1, none⟩ = some (.string s)) := fun V hV => by
    have h := hV p _ HP0.out hnu
    exact ⟨Mm.cellOf h rfl, Mm.cellOf h rfl⟩
  have HO0 : Hid (Mm.OwnB w0 base v l) := ho.keep fun g hg => HB0.out.block g (ho.lt g hg).2
  have HW := Pl.hid hW
  have HT := Pl.hid hT
  have HWb := Pl.hid hWb
  have hb0 : base ≤ w0.heap.size := by rw [HS0.out]; omega
  have HBB := Pl.hid hb
  obtain ⟨k0, k1⟩ := HK.out w0 (Mm.NB.refl _)
  have HW0eq := Pl.hid hw0
  have HPeq := Pl.hid hp
  clear hw0 hp hnu ho hW hT
  go_enter Tryd.func48, Tryd.ntmps48
  obtain ⟨TX, hTX⟩ : ∃ TX, TX = Pl.B (Lib.itoa (s.size : Int)) := ⟨_, rfl⟩
  have hTs : TX.size ≤ 21 := by rw [hTX, Pl.B_size]; exact Pl.itoa_le _ (by unfold Pl.In64; omega)
  have HTX : Hid (TX = Pl.B (Lib.decDigits s.size)) := by
    show _ = _
    rw [hTX, Pl.itoa_pos (by omega)]
    rfl
  have HTW := Pl.hid (fun w' (hw' : Mm.Tab w') => text_walk (s.size : Int) w' (by unfold Pl.In64; omega) hw')
  rw [← hTX] at HTW
  have hLs : (Pl.L s).length = s.size := Pl.L_length s
  have HLs := Pl.hid hLs
  clear hTX hLs
  have H13 : Hid ((TX ++ (⟨#[13, 10]⟩ : ByteArray)).size ≤ 23) := by
    show _ ≤ _
    rw [ByteArray.size_append, show (⟨#[13, 10]⟩ : ByteArray).size = 2 from rfl]
    omega
  go_wp2_with fail
  rw [← HW0eq.out, ← HPeq.out]
  refine (sign_4 w0).mono ?_
  rintro e w0' ⟨rfl, rfl⟩
  go_wp2_with (at_builtin; refine Mm.wp_app1N w0 rfl _ _ (by rfl) base v l 36 (by rfl) (by rfl) HO0.out (by omega) hb0 ?_; intro v1 w1 ho1 hb1 hn1; have HO1 := Pl.hid ho1; have HB1 := Pl.hid hb1; have HN1 := Pl.hid hn1; clear ho1 hb1 hn1 k0 k1; obtain ⟨k0, k1⟩ := HK.out w1 HN1.out)
  have HW1 : Hid (Below W.heap.size W w1) := HW.out.trans (((HB0.out.mono HBB.out).trans HB1.out).mono HWb.out)
  refine (HTW.out w1 (HT.out.on HW1.out)).mono ?_
  rintro e w2 ⟨rfl, hb2⟩
  have HN2 := Pl.hid (HN1.out.trans (Mm.NB.below hb2))
  have HB2 := Pl.hid (HB1.out.trans (hb2.mono (Nat.le_trans hb0 HB1.out.size)))
  have HO2 : Hid (Mm.OwnB w2 base v1 (l ++ [36])) := HO1.out.keep fun g hg => hb2.block g (HO1.out.lt g hg).2
  clear hb2 k0 k1
  obtain ⟨k0, k1⟩ := HK.out w2 HN2.out
  have hb2s : base ≤ w2.heap.size := Nat.le_trans hb0 HB2.out.size
  have HL3 : Hid ((l ++ [36] ++ Pl.L (TX ++ (⟨#[13, 10]⟩ : ByteArray))).length ≤ 1099511627900) := by
    show (l ++ [36] ++ Pl.L (TX ++ (⟨#[13, 10]⟩ : ByteArray))).length ≤ 1099511627900
    have h13 : (TX ++ (⟨#[13, 10]⟩ : ByteArray)).size ≤ 23 := H13.out
    rw [List.length_append, List.length_append, Pl.L_length]
    simp only [List.length_cons, List.length_nil]
    omega
  go_wp2_with (first
    | (at_builtin; refine Mm.wp_appSN w2 rfl _ _ (by rfl) base v1 (l ++ [36]) (TX ++ (⟨#[13, 10]⟩ : ByteArray)) (by rfl) (by rfl) HO2.out (by have := H13.out; rw [List.length_append]; simp only [List.length_cons, List.length_nil]; omega) hb2s ?_; intro v3 w3 ho3 hb3 hn3; have HO3 := Pl.hid ho3; have HB3 := Pl.hid (HB2.out.trans hb3); have HN3 := Pl.hid (HN2.out.trans hn3); clear ho3 hb3 hn3 k0 k1; obtain ⟨k0, k1⟩ := HK.out w3 HN3.out; have hb3s := Nat.le_trans hb0 HB3.out.size)
    | (at_builtin; refine Mm.wp_appSN w3 rfl _ _ (by rfl) base v3 _ s (by rfl) (by rfl) HO3.out (by have := HL3.out; omega) hb3s ?_; intro v4 w4 ho4 hb4 hn4; have HO4 := Pl.hid ho4; have HB4 := Pl.hid (HB3.out.trans hb4); have HN4 := Pl.hid (HN3.out.trans hn4); clear ho4 hb4 hn4; have hb4s := Nat.le_trans hb0 HB4.out.size)
    | (at_builtin; refine Mm.wp_appSN w4 rfl _ _ (by rfl) base v4 _ ⟨#[13, 10]⟩ (by rfl) (by rfl) HO4.out (by rw [List.length_append, HLs.out]; have := HL3.out; have : (⟨#[13, 10]⟩ : ByteArray).size = 2 := rfl; omega) hb4s ?_; intro v5 w5 ho5 hb5 hn5; have HO5 := Pl.hid ho5; have HB5 := Pl.hid (HB4.out.trans hb5); have HN5 := Pl.hid (HN4.out.trans hn5); clear ho5 hb5 hn5))
  go_ret
  refine ⟨v5, rfl, ?_, (HB0.out.mono HBB.out).trans HB5.out, (Mm.NB.below HB0.out).trans HN5.out⟩
  have h := HO5.out
  rw [HTX.out, show (⟨#[13, 10]⟩ : ByteArray) = Pl.B Pl.crlf from rfl, Pl.B_append, Pl.L_B, Pl.L_B] at h
  unfold Pl.bulkE
  rw [HLs.out]
  simpa using h
end Go.Proofs.YtakldjdohgmeiaaDoor
