/- Contracts of the law's roomy and kept: bytes lent with marks behind them. Conditions stand in each law. -/
import Derived.Test.YtijjodhkfpjihaaGreatDoorWirC
import Derived.Laws.AppendOwnNone
namespace Go.Proofs.YtijjodhkfpjihaaGreatDoor
open Go.RowKit
set_option maxRecDepth 20000

namespace Mm
open Pl
/-- 'append(s, b...)': a slice of bytes that came in, behind an owned row -/
theorem wp_appV {ops : Array Oper} {rest : List Oper} {o : Oper} {a : Act} {Q : Exit → Act → World → Prop} (w : World) (hgd : o.guard = none) (x y : Operand)
    (ho : o.op = .call { callee := .builtin .append, args := #[x, y], argTypes := #[22, 22] })
    (base : Nat) (v : Value) (l : List UInt8) (hx : a.eval x = v) (h : OwnB w base v l) (vy : Value) (m : List UInt8) (hy : a.eval y = vy) (hm : BytesV w vy m)
    (hl : l.length + m.length ≤ 140737488355328) (hbase : base ≤ w.heap.size)
    (hK : ∀ v' w', OwnB w' base v' (l ++ m) → w.grownBy w' v.ownBlock → wpList Tryz.prog ops Q rest (a.put o.dst v') w') :
    wpList Tryz.prog ops Q (o :: rest) a w := by
  obtain ⟨i0, hi, hz0, hz1, hz2⟩ := info_parts Tryz.info_u8
  obtain ⟨p, c, rfl, ⟨h0, hp⟩ | ⟨g, off, rfl, hg, hm⟩⟩ := hm
  · obtain rfl : m = [] := List.eq_nil_of_length_eq_zero h0
    cases p with
    | none =>
      obtain rfl := hp rfl
      refine wpList_append_own_none hgd x y 22 ho base 5 i0 1 Tryz.underlying22 hi v l.length (bytesV l) hx h hy ?_
      exact hK v w (by rw [List.append_nil]; exact h) ⟨rfl, rfl, rfl, Nat.le_refl _, fun _ _ _ => rfl⟩
    | some ad =>
      refine wpList_append_own _ hgd x y 22 ho base 5 i0 (.int .u8 0) 1 1 Tryz.underlying22 hi hz0 hz1 hz2 rfl (by decide) v l.length (bytesV l) hx h ad 0 c [] hy rfl (fun j u hj => by simp at hj) (fun u hu => by cases hu) ?_ (by simp at hl; omega) hbase ?_
      · simp at hl
        unfold maxLen
        omega
      · intro v' w' h1 h2 _
        exact hK v' w' (by unfold OwnB; simpa using h1) h2
  · exact wp_appB w hgd x y ho base v l hx h g off c m m.length rfl hy hm hl hbase hK
/-- '[]byte{}' -/
theorem ownB_empty (w : World) (b : Nat) (hb : b ≤ w.heap.size) : OwnB (w.alloc (.cells #[] 5)) b (.slice (some ⟨w.heap.size, 0, none⟩) 0 0) [] :=
  ⟨rfl, .inr ⟨w.heap.size, 0, #[], rfl, hb, heap_alloc_new w _, Nat.le_refl _, by unfold maxLen; omega, rfl, rfl⟩⟩
theorem marks_at (w : World) : BytesAt (w.alloc (.cells #[.int .u8 165, .int .u8 90] 5)) w.heap.size 0 [165, 90] := fun j hj => by
  rw [World.cell?_alloc_mark]
  match j, hj with
  | 0, _ => rfl
  | 1, _ => rfl
theorem OwnB.kept {w w' : World} {b : Nat} {v : Value} {l : List UInt8} (h : OwnB w b v l) (hb : Below w.heap.size w w') : OwnB w' b v l :=
  h.keep fun g hg => by
    rcases h.2 with ⟨rfl, _⟩ | ⟨g', cap, cur, rfl, _, hh, _⟩
    · cases hg
    · injection hg with hg
      subst hg
      exact hb.block _ (Array.getElem?_eq_some_iff.1 hh).1
theorem OwnB.grown {w w' : World} {b : Nat} {v : Value} {l : List UInt8} (h : OwnB w b v l) (hb : w.grownBy w' v.ownBlock) (B : Nat) (hB : B ≤ b) (hB' : B ≤ w.heap.size) : Below B w w' :=
  (Below.refl _ _).grown hb hB' (fun k hk => Nat.le_trans hB (h.lt k hk).1)
end Mm

theorem roomy_walk (vb : Value) (l : List UInt8) (w : World) (hl : l.length ≤ 140737488351232) (hb : Mm.BytesV w vb l) :
    Calls Tryz.prog 18 #[vb] w fun e w' => ∃ g cap, e = .returned (.slice (some ⟨g, 0, none⟩) l.length cap) ∧ l.length + 2 ≤ cap ∧ Mm.OwnB w' w.heap.size (.slice (some ⟨g, 0, none⟩) (l.length + 2) cap) (l ++ [165, 90]) ∧ Below w.heap.size w w' := by
  have HV := Pl.hid hb
  obtain ⟨p, c, rfl, hp⟩ := hb
  clear hp
  go_enter Tryz.func18, Tryz.ntmps18
  have HB0 := Pl.hid ((Below.refl w.heap.size w).alloc (Nat.le_refl _) (.cells #[] 5))
  have HO0 := Pl.hid (Mm.ownB_empty w w.heap.size (Nat.le_refl _))
  have HV0 := Pl.hid (HV.out.below HB0.out)
  go_wp2_with (at_builtin; refine Mm.wp_appV _ rfl _ _ (by rfl) w.heap.size _ _ (by rfl) HO0.out _ l (by rfl) HV0.out (by simp; omega) HB0.out.size ?_; intro v1 w1 hown1 hg1; refine Hid.out ?_)
  refine Pl.hid ?_
  have HO1 := Pl.hid hown1
  have HB1 := Pl.hid (HB0.out.trans (HO0.out.grown hg1 w.heap.size (Nat.le_refl _) HB0.out.size))
  clear hown1 hg1
  have HM1 := Pl.hid (Mm.marks_at w1)
  have HB1' := Pl.hid ((Below.refl w1.heap.size w1).alloc (Nat.le_refl _) (.cells #[.int .u8 165, .int .u8 90] 5))
  have HO1' := Pl.hid (HO1.out.kept HB1'.out)
  have HB1'' := Pl.hid (HB1.out.trans (HB1'.out.mono HB1.out.size))
  go_wp2_with (at_builtin; refine Mm.wp_appB _ rfl _ _ (by rfl) w.heap.size _ ([] ++ l) (by rfl) HO1'.out w1.heap.size 0 2 [165, 90] 2 rfl (by rfl) HM1.out (by simp; omega) HB1''.out.size ?_; intro v2 w2 hown2 hg2; refine Hid.out ?_)
  refine Pl.hid ?_
  have HO2 := Pl.hid hown2
  have HB2 := Pl.hid (HB1''.out.trans (HO1'.out.grown hg2 w.heap.size (Nat.le_refl _) HB1''.out.size))
  clear hown2 hg2
  obtain ⟨a2, c2, hv2, h0 | ⟨g, rfl, hg, hgs, hc⟩⟩ := HO2.out.val
  · simp at h0
  rw [show ([] ++ l ++ [165, 90] : List UInt8).length = l.length + 2 by simp] at hv2 hc
  have HV2 := Pl.hid hv2
  subst hv2
  have HC := Pl.hid hc
  have hc1 : l.length ≤ c2 := by omega
  have hc2 : ¬ c2 = 0 := by omega
  go_wp2_with fail
  go_ret
  exact ⟨g, c2, rfl, HC.out, HO2.out, HB2.out⟩

theorem kept_walk (vb : Value) (l : List UInt8) (g cap b0 : Nat) (w : World) (hl : l.length ≤ 140737488351232) (hcap : l.length + 2 ≤ cap) (hb : Mm.BytesV w vb l) (ho : Mm.OwnB w b0 (.slice (some ⟨g, 0, none⟩) (l.length + 2) cap) (l ++ [165, 90])) :
    Calls Tryz.prog 20 #[.slice (some ⟨g, 0, none⟩) l.length cap, vb] w fun e w' => e = .returned (.bool true) ∧ Below w.heap.size w w' := by
  have HV := Pl.hid hb
  have HO := Pl.hid ho
  have hgl := Pl.hid (ho.lt g rfl).2
  have hm := ho.bytesAt
  have HA : Hid (Mm.BytesV w (.slice (some ⟨g, 0, none⟩) l.length cap) l) := ⟨_, _, rfl, .inr ⟨g, 0, rfl, hgl.out, fun j hj => by
    rw [hm j (by simp; omega)]
    unfold Pl.at_
    rw [List.getD_eq_getElem?_getD, List.getD_eq_getElem?_getD, List.getElem?_append_left hj]⟩⟩
  have e1 : w.cell? ⟨g, l.length, none⟩ = some (.int .u8 165) := by
    have := hm l.length (by simp)
    rw [Nat.zero_add] at this
    rw [this]
    unfold Pl.at_
    simp
  have e2 : w.cell? ⟨g, l.length + 1, none⟩ = some (.int .u8 90) := by
    have := hm (l.length + 1) (by simp)
    rw [Nat.zero_add] at this
    rw [this]
    unfold Pl.at_
    simp
  have E1 := Pl.hid e1
  have E2 := Pl.hid e2
  obtain ⟨p, c, rfl, hp⟩ := hb
  obtain ⟨n, hn⟩ : ∃ n, n = l.length := ⟨_, rfl⟩
  clear hp ho hm e1 e2
  rw [← hn] at HV HO HA E1 E2 hl hcap ⊢
  have HN := Pl.hid hn
  clear hn
  have hcz : ¬ cap = 0 := by omega
  go_enter Tryz.func20, Tryz.ntmps20
  go_wp2_with fail
  refine (sameBytes_eq _ _ l _ (by rw [← HN.out]; omega) HA.out HV.out).mono ?_
  rintro e w1 ⟨rfl, hb1⟩
  have HB1 := Pl.hid hb1
  have f1 := (hb1.cell (p := ⟨g, n, none⟩) hgl.out).trans E1.out
  have f2 := (hb1.cell (p := ⟨g, n + 1, none⟩) hgl.out).trans E2.out
  clear hb1
  go_wp2_with fail
  go_ret
  exact ⟨rfl, HB1.out⟩
end Go.Proofs.YtijjodhkfpjihaaGreatDoor
