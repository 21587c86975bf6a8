/- pantrylaw17.RequestQuotes: the line of the words. Conditions stand in each law. -/
import Derived.Test.YtakldjdohgmeiaaDoorParK
import Derived.Test.YtakldjdohgmeiaaDoorQuoA
namespace Go.Proofs.YtakldjdohgmeiaaDoor
open Go.RowKit
set_option maxRecDepth 20000

namespace Pl
def sixt : ByteArray := ⟨#[48, 49, 50, 51, 52, 53, 54, 55, 56, 57, 97, 98, 99, 100, 101, 102]⟩
theorem sixt_fin : ∀ k : Fin 16, sixt.extract k.val (k.val + 1) = B [hx k.val] := by decide +kernel
theorem sixt_one {k : Nat} (h : k < 16) : sixt.extract k (k + 1) = B [hx k] := sixt_fin ⟨k, h⟩
end Pl
theorem sixt_run (k : Nat) (h : k < 16) (w : World) : (Instr.slice 9 (.string ⟨#[48, 49, 50, 51, 52, 53, 54, 55, 56, 57, 97, 98, 99, 100, 101, 102]⟩) (some (.int .u8 (k : Int))) (some (.int .u8 ((k : Int) + 1))) none).run Tryd.prog w = .ok (.string (Pl.B [Pl.hx k])) w := by
  rw [run_slice_string w 9 _ .u8 .u8 (k : Int) ((k : Int) + 1) Tryd.underlying9 (by omega) (by omega) (by show _ ≤ (16 : Int); omega)]
  rw [← Pl.sixt_one h]
  congr 3
namespace Mm
open Pl
/-- a row of texts in bytes that came in -/
def WordsV (w : World) (v : Value) (ws : List (List UInt8)) : Prop := ∃ a c, v = .slice a ws.length c ∧ ws.length ≤ c ∧ ws.length ≤ 9223372036854775807 ∧ (0 < ws.length → ∃ g o, a = some ⟨g, o, none⟩ ∧ ∀ i l, ws[i]? = some l → l.length ≤ 9223372036854775807 ∧ ∃ vb, w.cell? ⟨g, o + i, none⟩ = some vb ∧ Bs w vb l)
theorem conv_bs {w : World} {v : Value} {l : List UInt8} (h : Bs w v l) : (convert 24 9 v).run Tryd.prog w = .ok (.string (B l)) w := by
  obtain ⟨a, c, rfl, _, _, hb⟩ := h
  rcases Nat.eq_zero_or_pos l.length with h0 | h0
  · obtain rfl : l = [] := List.eq_nil_of_length_eq_zero h0
    exact run_convert_bytes_zero w 24 5 Tryd.underlying24 Tryd.underlying5 a c 9 Tryd.underlying9
  · obtain ⟨g, o, rfl, hm⟩ := hb h0
    exact conv_at w g o _ c l rfl hm
theorem Bs.below {w w' : World} {v : Value} {l : List UInt8} (h : Bs w v l) (hb : Below w.heap.size w w') : Bs w' v l := h.keep fun _ _ _ g _ _ _ _ hg => hb.block g hg
end Mm

set_option maxHeartbeats 8000000 in
theorem quotes_walk (v : Value) (ws0 : List (List UInt8)) (W : World) (hv : Mm.WordsV W v ws0) (hR : Mm.RErr W) (hE : Mm.Errs W) (hI : Mm.InlE W) :
    Calls Tryd.prog 6 #[v] W fun e w' => e = .returned (.bool true) ∧ Below W.heap.size W w' := by
  obtain ⟨a, c, rfl, hc, hn, hws⟩ := hv
  obtain ⟨n, hnn⟩ : ∃ n, n = ws0.length := ⟨_, rfl⟩
  rw [← hnn] at hc hn hws ⊢
  have HN := Pl.hid hnn
  have HR := Pl.hid hR
  have HE := Pl.hid hE
  have HI := Pl.hid hI
  have HWS := Pl.hid hws
  clear hR hE hI hws hnn
  go_enter Tryd.func6, Tryd.ntmps6
  go_wp2_with fail
  refine (wakes17_walk W W HR.out HE.out HI.out (Below.refl _ _)).mono ?_
  rintro e w1 ⟨rfl, hb1⟩
  have HB1 := Pl.hid hb1
  clear hb1
  go_wp2_with fail
  generalize hw2 : w1.alloc _ = w2
  have HO2 : Hid (Mm.OwnS w2 W.heap.size (.slice (some ⟨w1.heap.size, 0, none⟩) 1 1) [[120]]) := by
    show Mm.OwnS _ _ _ _
    rw [← hw2]
    refine ⟨rfl, .inr ⟨w1.heap.size, 1, #[.string ⟨#[120]⟩], rfl, HB1.out.size, heap_alloc_new w1 _, by decide, by unfold maxLen; omega, rfl, rfl⟩⟩
  have HB2 : Hid (Below W.heap.size W w2) := by
    show Below _ _ _
    rw [← hw2]
    exact HB1.out.alloc HB1.out.size _
  clear hw2
  go_loopw [21, 4, 5] (fun iv lv wv wr => ∃ (i : Nat) (ws : List (List UInt8)), iv = .int .i64 i ∧ i ≤ n ∧ lv = .string (Pl.B (Pl.quL ws)) ∧ ws.length < 1024 ∧ (Pl.quL ws).length ≤ 4095 ∧ Hid (Mm.OwnS wr W.heap.size wv ([120] :: ws)) ∧ Hid (Below W.heap.size W wr)) (fun iv _ _ _ => n - (intOf iv).toNat)
  case atStart => exact ⟨0, [], rfl, Nat.zero_le _, rfl, by decide, by decide, HO2.out, HB2.out⟩
  case round =>
    obtain ⟨i, ws, rfl, hi, rfl, hlw, hlq, HO, HB⟩ := hrel
    obtain ⟨LN, hLN⟩ : ∃ LN, LN = Pl.B (Pl.quL ws) := ⟨_, rfl⟩
    obtain ⟨ql, hql⟩ : ∃ ql, ql = (Pl.quL ws).length := ⟨_, rfl⟩
    have hLs : LN.size = ql := by rw [hLN, Pl.B_size, hql]
    rw [← hLN]
    have hqlb : ql ≤ 4095 := by omega
    have HLN := Pl.hid hLN
    have HQL := Pl.hid hql
    clear hLN hql
    rcases Nat.lt_or_ge i n with hin | hin
    · obtain ⟨g, o, rfl, hcell⟩ := HWS.out (by omega)
      obtain ⟨wl, hwl⟩ : ∃ wl, ws0[i]? = some wl := ⟨_, List.getElem?_eq_getElem (by rw [← HN.out]; exact hin)⟩
      obtain ⟨hll, vb, hcv, hbs⟩ := hcell i wl hwl
      have hcv' := (HB.out.cell (p := ⟨g, o + i, none⟩) (World.block_lt_of_cell? _ _ hcv)).trans hcv
      have HBS := Pl.hid (hbs.below HB.out)
      obtain ⟨va, vc, rfl, hvc, _, hby⟩ := hbs
      have HBY := Pl.hid hby
      clear hcell hcv hby hwl
      go_wp2_with fail
      clear hcv'
      go_loopw [27, 8] (fun jv nv wx => ∃ j : Nat, jv = .int .i64 j ∧ j ≤ wl.length ∧ j ≤ 2001 ∧ nv = .string (Pl.B ([32, 34] ++ Pl.hexs (wl.take j))) ∧ Hid (Below wr.heap.size wr wx)) (fun jv _ _ => wl.length - (intOf jv).toNat)
      case atStart => exact ⟨0, rfl, Nat.zero_le _, Nat.zero_le _, rfl, Below.refl _ _⟩
      case round =>
        rename_i wx
        obtain ⟨j, rfl, hj, hj2, rfl, HBX⟩ := hrel
        have HOX := Pl.hid (HO.out.below HBX.out)
        have HBWX := Pl.hid (HB.out.trans (HBX.out.mono HB.out.size))
        rcases Nat.lt_or_ge j wl.length with hjl | hjl
        · obtain ⟨g1, o1, rfl, hm⟩ := HBY.out (by omega)
          have hcj := (HBX.out.cell (p := ⟨g1, o1 + j, none⟩) (by have := hm.lt (by omega : 0 < wl.length); exact Nat.lt_of_lt_of_le this HB.out.size)).trans ((HB.out.cell (p := ⟨g1, o1 + j, none⟩) (hm.lt (by omega))).trans (hm j hjl))
          rcases Nat.lt_or_ge 2000 j with hj3 | hj3
          · obtain ⟨NX, hNX⟩ : ∃ NX, NX = Pl.B ([32, 34] ++ Pl.hexs (wl.take j)) := ⟨_, rfl⟩
            have hNs : NX.size = 2 + 4 * j := by
              rw [hNX, Pl.B_size, List.length_append, Pl.hexs_length, List.length_take]
              simp
              omega
            rw [← hNX]
            clear hNX hm
            go_wp2_with fail
            have HQI : Hid (Pl.inl 1026 (Pl.L LN) [] = (0, [120] :: ws)) := by show _ = _; rw [HLN.out, Pl.L_B]; exact Pl.inl_line ws 1026 (by omega) hlw
            refine (inline_ok LN 1026 ([120] :: ws) _ (by omega) HQI.out).mono ?_
            rintro e w5 ⟨nv, rfl, hown, hb5⟩
            have HR5 := Pl.hid hown.rowT
            have HW5 := Pl.hid (HOX.out.below hb5).rowT
            have HB5 := Pl.hid (HBWX.out.trans (hb5.mono HBWX.out.size))
            obtain ⟨na, nc, rfl, _⟩ := hown.val
            clear hown hb5
            have hw1k : ([120] :: ws).length ≤ 140737488351232 := by simp; omega
            go_wp2_with fail
            refine (sameTexts_eq _ _ ([120] :: ws) _ hw1k HR5.out HW5.out).mono ?_
            rintro e w6 ⟨rfl, hb6⟩
            have HW6 := Pl.hid (HW5.out.below hb6)
            have HB6 := Pl.hid (HB5.out.trans (hb6.mono HB5.out.size))
            clear hb6
            go_wp2_with fail
            refine (pnew_walk _).mono ?_
            rintro e w7 ⟨rfl, hp7, hs7, hb7⟩
            have HP7 := Pl.hid hp7
            have HB67 := Pl.hid hb7
            have HW7 := Pl.hid (HW6.out.below hb7)
            have HB7 := Pl.hid (HB6.out.trans (hb7.mono HB6.out.size))
            have HPW : Hid (W.heap.size ≤ w6.heap.size) := HB6.out.size
            have HS7 : Hid (w7.heap.size = w6.heap.size + 1) := hs7
            clear hp7 hs7 hb7
            go_wp2_with (refine Mm.wp_tobytes w7 rfl _ (by rfl) (LN ++ ⟨#[13, 10]⟩) (by rfl) ?_; intro c8 w8 hc8 hs8 hcell8 hfr8 hb8; clear hfr8; have HC8 := Pl.hid hc8; have HCL8 := Pl.hid hcell8; have HB8' := Pl.hid hb8; clear hc8 hs8 hcell8 hb8)
            have HT8 : Hid (LN ++ ⟨#[13, 10]⟩ = Pl.B (Pl.quL ws ++ [13, 10])) := by show _ = _; rw [HLN.out, ← Pl.B_append]; rfl
            have HBS8 : Hid (∀ m, m = (Pl.quL ws ++ [13, 10]).length → Mm.Bs w8 (.slice (some ⟨w7.heap.size, 0, none⟩) m c8) (Pl.quL ws ++ [13, 10])) := fun m hm => by
              subst hm
              have hcc := HC8.out
              have hcl := HCL8.out
              rw [HT8.out, Pl.B_size] at hcc hcl
              rw [Pl.L_B] at hcl
              exact ⟨_, _, rfl, hcc, fun e => (by cases e), fun _ => ⟨_, _, rfl, fun k hk => by rw [Nat.zero_add]; exact hcl k hk⟩⟩
            have HW8 := Pl.hid (HW7.out.below HB8'.out)
            have HB8 := Pl.hid (HB7.out.trans (HB8'.out.mono HB7.out.size))
            have HP8 := Pl.hid (HP7.out.below HB8'.out)
            have HFQ : Hid (Pl.feedA Pl.fresh [] (Pl.quL ws ++ [13, 10]) = ({ Pl.fresh with ready := [[120] :: ws] }, [])) := by
              refine Pl.feedA_ok (T := Pl.quL ws ++ [13, 10]) rfl ?_ rfl
              have hfl : (Pl.quL ws ++ [13, 10]).length + 1 = ((Pl.quL ws).length + 1) + 2 := by simp
              rw [hfl]
              exact Pl.feed_qu ws hlw hlq _
            refine (feed_walk w6.heap.size _ (Pl.quL ws ++ [13, 10]) [] Pl.fresh _ W w8 HPW.out HR.out HE.out HI.out HB8.out (by simp; omega) (by decide) (HBS8.out _ (by simp; have := HQL.out; omega)) HP8.out rfl Pl.okP_fresh 0 (by unfold Pl.bnd Pl.fresh; simp) (by simp; omega)).mono ?_
            rw [HFQ.out]
            rintro e w9 ⟨rfl, G9, hp9, hc9⟩
            have HN9 := Pl.hid hp9.asked
            have HB68 : Hid (Below w6.heap.size w6 w8) := HB67.out.trans (HB8'.out.mono HB67.out.size)
            have HB69 : Hid (Below w6.heap.size w6 w9) := hc9.under0 (Nat.le_refl _) HB68.out (fun g hg => by rw [hg]; exact Nat.le_refl _)
            have HB9 := Pl.hid (HB6.out.trans (HB69.out.mono HPW.out))
            have HW9 := Pl.hid (HW6.out.below HB69.out)
            clear hp9 hc9
            go_wp2_with fail
            refine (pnext_some w6.heap.size ([120] :: ws) [] _ 0 w9 HN9.out).mono ?_
            rintro e w10 ⟨⟨va, rfl, hoa⟩, hn10, hg10⟩
            have HOA := Pl.hid hoa.rowT
            have HN10 := Pl.hid hn10
            have HB610 : Hid (Below w6.heap.size w6 w10) := HB69.out.grown hg10 HB69.out.size (fun k hk => by injection hk with hk; omega)
            have HB10 := Pl.hid (HB6.out.trans (HB610.out.mono HPW.out))
            have HW10 := Pl.hid (HW6.out.below HB610.out)
            clear hoa hn10 hg10
            go_wp2_with fail
            refine (sameTexts_eq _ _ ([120] :: ws) _ hw1k HOA.out HW10.out).mono ?_
            rintro e w11 ⟨rfl, hb11⟩
            have HN11 := Pl.hid (HN10.out.below hb11)
            have HB11 := Pl.hid (HB10.out.trans (hb11.mono HB10.out.size))
            clear hb11
            go_wp2_with fail
            refine (pheld_walk w6.heap.size [] _ 0 _ HN11.out (by unfold Pl.fresh; simp) (by decide)).mono ?_
            rintro e w12 ⟨rfl, hb12⟩
            have HN12 := Pl.hid (HN11.out.below hb12)
            have HB12 := Pl.hid (HB11.out.trans (hb12.mono HB11.out.size))
            rw [show (({ Pl.fresh with ready := [[120] :: ws] } : Pl.Pst).used + 0 : Nat) = 0 from rfl]
            clear hb12
            go_wp2_with fail
            refine (perr_walk w6.heap.size [] _ 0 w12 HN12.out).mono ?_
            rintro e w13 ⟨⟨ev, rfl, he⟩, rfl⟩
            obtain rfl : ev = .nilIface := by
              rcases he with ⟨h, _⟩ | ⟨_, h⟩
              · cases h
              · exact h
            clear he
            go_wp2_with fail
            go_ret
            exact ⟨rfl, HB12.out⟩
          · clear hm
            go_wp2_with fail
            obtain ⟨d, hd⟩ : ∃ d, wl[j]? = some d := ⟨_, List.getElem?_eq_getElem hjl⟩
            have hxd : Pl.at_ wl j = (d.toNat : Int) := by
              unfold Pl.at_
              rw [List.getD_eq_getElem?_getD, hd]
              rfl
            have hdl := d.toNat_lt
            obtain ⟨q, hq⟩ : ∃ q, q = d.toNat / 16 := ⟨_, rfl⟩
            obtain ⟨r, hr⟩ : ∃ r, r = d.toNat % 16 := ⟨_, rfl⟩
            have hxq : (d.toNat : Int) / 16 = (q : Int) := by omega
            have hq1 : q < 16 := by omega
            have hr1 : r < 16 := by omega
            have hwq : IntKind.u8.wrap ((q : Int) + 1) = (q : Int) + 1 := by simp [IntKind.wrap, IntKind.bits, IntKind.signed]; omega
            have hwr : IntKind.u8.wrap ((r : Int) + 1) = (r : Int) + 1 := by simp [IntKind.wrap, IntKind.bits, IntKind.signed]; omega
            have hrun1 := fun w' => sixt_run q hq1 w'
            have hrun2 := fun w' => sixt_run r hr1 w'
            obtain ⟨T1, hT1⟩ : ∃ T1, T1 = Pl.B [Pl.hx q] := ⟨_, rfl⟩
            obtain ⟨T2, hT2⟩ : ∃ T2, T2 = Pl.B [Pl.hx r] := ⟨_, rfl⟩
            obtain ⟨NX, hNX⟩ : ∃ NX, NX = Pl.B ([32, 34] ++ Pl.hexs (wl.take j)) := ⟨_, rfl⟩
            have hlit : (⟨#[92, 120]⟩ : ByteArray).size = 2 := rfl
            have hT1s : T1.size ≤ 1 := by rw [hT1, Pl.B_size]; exact Nat.le_refl _
            have hT2s : T2.size ≤ 1 := by rw [hT2, Pl.B_size]; exact Nat.le_refl _
            have hNXs : NX.size ≤ 8100 := by
              rw [hNX, Pl.B_size, List.length_append, Pl.hexs_length, List.length_take]
              simp
              omega
            rw [← hT1] at hrun1
            rw [← hT2] at hrun2
            rw [← hNX]
            have HT1 := Pl.hid hT1
            have HT2 := Pl.hid hT2
            have HNX := Pl.hid hNX
            clear hT1 hT2 hNX
            rw [hxd]
            have HQ := Pl.hid hq
            have HRr := Pl.hid hr
            have HXD := Pl.hid hxd
            have HDD := Pl.hid hd
            have hx0 : 0 ≤ (d.toNat : Int) := by omega
            have hx1 : (d.toNat : Int) ≤ 255 := by omega
            have HXR : Hid ((d.toNat : Int) % 16 = (r : Int)) := by show _ = _; omega
            clear hq hr hxd hd hdl
            have hxr := HXR.out
            generalize (d.toNat : Int) = x at hxq hxr hx0 hx1 HXR ⊢
            go_quiet (fail)
            go_wp2_with fail
            go_roundw
            case rel => exact ⟨j + 1, by go_num, by omega, by omega, by
              rw [HNX.out, HT1.out, HT2.out, show (⟨#[92, 120]⟩ : ByteArray) = Pl.B [92, 120] from rfl, Pl.B_append, Pl.B_append, Pl.B_append]
              congr 2
              rw [List.take_add_one, HDD.out, Option.toList_some, Pl.hexs_snoc, HQ.out, HRr.out]
              simp, HBX.out.trans (Mm.below_drewN _ _)⟩
            case measure => simp [intOf]; omega
        · obtain rfl : j = wl.length := by omega
          rw [List.take_length]
          obtain ⟨NX, hNX⟩ : ∃ NX, NX = Pl.B ([32, 34] ++ Pl.hexs wl) := ⟨_, rfl⟩
          have hNs : NX.size = 2 + 4 * wl.length := by
            rw [hNX, Pl.B_size, List.length_append, Pl.hexs_length]
            rfl
          rw [← hNX]
          have HNX := Pl.hid hNX
          clear hNX
          rcases Nat.lt_or_ge 4095 (ql + (2 + 4 * wl.length) + 1) with hlong | hlong
          · skip
            go_wp2_with fail
            have HQI : Hid (Pl.inl 1026 (Pl.L LN) [] = (0, [120] :: ws)) := by show _ = _; rw [HLN.out, Pl.L_B]; exact Pl.inl_line ws 1026 (by omega) hlw
            refine (inline_ok LN 1026 ([120] :: ws) _ (by omega) HQI.out).mono ?_
            rintro e w5 ⟨nv, rfl, hown, hb5⟩
            have HR5 := Pl.hid hown.rowT
            have HW5 := Pl.hid (HOX.out.below hb5).rowT
            have HB5 := Pl.hid (HBWX.out.trans (hb5.mono HBWX.out.size))
            obtain ⟨na, nc, rfl, _⟩ := hown.val
            clear hown hb5
            have hw1k : ([120] :: ws).length ≤ 140737488351232 := by simp; omega
            go_wp2_with fail
            refine (sameTexts_eq _ _ ([120] :: ws) _ hw1k HR5.out HW5.out).mono ?_
            rintro e w6 ⟨rfl, hb6⟩
            have HW6 := Pl.hid (HW5.out.below hb6)
            have HB6 := Pl.hid (HB5.out.trans (hb6.mono HB5.out.size))
            clear hb6
            go_wp2_with fail
            refine (pnew_walk _).mono ?_
            rintro e w7 ⟨rfl, hp7, hs7, hb7⟩
            have HP7 := Pl.hid hp7
            have HB67 := Pl.hid hb7
            have HW7 := Pl.hid (HW6.out.below hb7)
            have HB7 := Pl.hid (HB6.out.trans (hb7.mono HB6.out.size))
            have HPW : Hid (W.heap.size ≤ w6.heap.size) := HB6.out.size
            have HS7 : Hid (w7.heap.size = w6.heap.size + 1) := hs7
            clear hp7 hs7 hb7
            go_wp2_with (refine Mm.wp_tobytes w7 rfl _ (by rfl) (LN ++ ⟨#[13, 10]⟩) (by rfl) ?_; intro c8 w8 hc8 hs8 hcell8 hfr8 hb8; clear hfr8; have HC8 := Pl.hid hc8; have HCL8 := Pl.hid hcell8; have HB8' := Pl.hid hb8; clear hc8 hs8 hcell8 hb8)
            have HT8 : Hid (LN ++ ⟨#[13, 10]⟩ = Pl.B (Pl.quL ws ++ [13, 10])) := by show _ = _; rw [HLN.out, ← Pl.B_append]; rfl
            have HBS8 : Hid (∀ m, m = (Pl.quL ws ++ [13, 10]).length → Mm.Bs w8 (.slice (some ⟨w7.heap.size, 0, none⟩) m c8) (Pl.quL ws ++ [13, 10])) := fun m hm => by
              subst hm
              have hcc := HC8.out
              have hcl := HCL8.out
              rw [HT8.out, Pl.B_size] at hcc hcl
              rw [Pl.L_B] at hcl
              exact ⟨_, _, rfl, hcc, fun e => (by cases e), fun _ => ⟨_, _, rfl, fun k hk => by rw [Nat.zero_add]; exact hcl k hk⟩⟩
            have HW8 := Pl.hid (HW7.out.below HB8'.out)
            have HB8 := Pl.hid (HB7.out.trans (HB8'.out.mono HB7.out.size))
            have HP8 := Pl.hid (HP7.out.below HB8'.out)
            have HFQ : Hid (Pl.feedA Pl.fresh [] (Pl.quL ws ++ [13, 10]) = ({ Pl.fresh with ready := [[120] :: ws] }, [])) := by
              refine Pl.feedA_ok (T := Pl.quL ws ++ [13, 10]) rfl ?_ rfl
              have hfl : (Pl.quL ws ++ [13, 10]).length + 1 = ((Pl.quL ws).length + 1) + 2 := by simp
              rw [hfl]
              exact Pl.feed_qu ws hlw hlq _
            refine (feed_walk w6.heap.size _ (Pl.quL ws ++ [13, 10]) [] Pl.fresh _ W w8 HPW.out HR.out HE.out HI.out HB8.out (by simp; omega) (by decide) (HBS8.out _ (by simp; have := HQL.out; omega)) HP8.out rfl Pl.okP_fresh 0 (by unfold Pl.bnd Pl.fresh; simp) (by simp; omega)).mono ?_
            rw [HFQ.out]
            rintro e w9 ⟨rfl, G9, hp9, hc9⟩
            have HN9 := Pl.hid hp9.asked
            have HB68 : Hid (Below w6.heap.size w6 w8) := HB67.out.trans (HB8'.out.mono HB67.out.size)
            have HB69 : Hid (Below w6.heap.size w6 w9) := hc9.under0 (Nat.le_refl _) HB68.out (fun g hg => by rw [hg]; exact Nat.le_refl _)
            have HB9 := Pl.hid (HB6.out.trans (HB69.out.mono HPW.out))
            have HW9 := Pl.hid (HW6.out.below HB69.out)
            clear hp9 hc9
            go_wp2_with fail
            refine (pnext_some w6.heap.size ([120] :: ws) [] _ 0 w9 HN9.out).mono ?_
            rintro e w10 ⟨⟨va, rfl, hoa⟩, hn10, hg10⟩
            have HOA := Pl.hid hoa.rowT
            have HN10 := Pl.hid hn10
            have HB610 : Hid (Below w6.heap.size w6 w10) := HB69.out.grown hg10 HB69.out.size (fun k hk => by injection hk with hk; omega)
            have HB10 := Pl.hid (HB6.out.trans (HB610.out.mono HPW.out))
            have HW10 := Pl.hid (HW6.out.below HB610.out)
            clear hoa hn10 hg10
            go_wp2_with fail
            refine (sameTexts_eq _ _ ([120] :: ws) _ hw1k HOA.out HW10.out).mono ?_
            rintro e w11 ⟨rfl, hb11⟩
            have HN11 := Pl.hid (HN10.out.below hb11)
            have HB11 := Pl.hid (HB10.out.trans (hb11.mono HB10.out.size))
            clear hb11
            go_wp2_with fail
            refine (pheld_walk w6.heap.size [] _ 0 _ HN11.out (by unfold Pl.fresh; simp) (by decide)).mono ?_
            rintro e w12 ⟨rfl, hb12⟩
            have HN12 := Pl.hid (HN11.out.below hb12)
            have HB12 := Pl.hid (HB11.out.trans (hb12.mono HB11.out.size))
            rw [show (({ Pl.fresh with ready := [[120] :: ws] } : Pl.Pst).used + 0 : Nat) = 0 from rfl]
            clear hb12
            go_wp2_with fail
            refine (perr_walk w6.heap.size [] _ 0 w12 HN12.out).mono ?_
            rintro e w13 ⟨⟨ev, rfl, he⟩, rfl⟩
            obtain rfl : ev = .nilIface := by
              rcases he with ⟨h, _⟩ | ⟨_, h⟩
              · cases h
              · exact h
            clear he
            go_wp2_with fail
            go_ret
            exact ⟨rfl, HB12.out⟩
          · rcases Nat.lt_or_ge ws.length 1023 with hfew | hfew
            · have HCVB := Pl.hid (Mm.conv_bs (HBS.out.below HBX.out))
              have hcvb := HCVB.out
              have HOX' := HOX
              obtain ⟨xa, xc, hxe, _⟩ := HOX.out.val
              subst hxe
              go_wp2_with (at_builtin; refine Mm.wp_app1S _ rfl _ _ (by rfl) W.heap.size _ ([120] :: ws) (Pl.B wl) (by rfl) (by rfl) HOX'.out (by simp; omega) HBWX.out.size ?_; intro v2 w2 hown2 hb2; have HO2 := Pl.hid hown2; have HBB2 := Pl.hid (HBWX.out.trans hb2); clear hown2 hb2)
              go_roundw
              case rel => exact ⟨i + 1, ws ++ [wl], by go_num, by omega, by
                rw [HNX.out, HLN.out, show (⟨#[34]⟩ : ByteArray) = Pl.B [34] from rfl, Pl.B_append, Pl.B_append, Pl.quL_snoc]
                simp, by simp; omega, by rw [Pl.quL_snoc]; simp [Pl.hexs_length]; have := HQL.out; omega, by
                show Mm.OwnS _ _ _ _
                have h := HO2.out
                rw [Pl.L_B] at h
                exact h, HBB2.out⟩
              case measure => simp [intOf]; omega
            · skip
              have hwn : ¬ ws.length + 1 < 1024 := by omega
              obtain ⟨xa, xc, hxe, _⟩ := HOX.out.val
              subst hxe
              go_wp2_with fail
              have HQI : Hid (Pl.inl 1026 (Pl.L LN) [] = (0, [120] :: ws)) := by show _ = _; rw [HLN.out, Pl.L_B]; exact Pl.inl_line ws 1026 (by omega) hlw
              refine (inline_ok LN 1026 ([120] :: ws) _ (by omega) HQI.out).mono ?_
              rintro e w5 ⟨nv, rfl, hown, hb5⟩
              have HR5 := Pl.hid hown.rowT
              have HW5 := Pl.hid (HOX.out.below hb5).rowT
              have HB5 := Pl.hid (HBWX.out.trans (hb5.mono HBWX.out.size))
              obtain ⟨na, nc, rfl, _⟩ := hown.val
              clear hown hb5
              have hw1k : ([120] :: ws).length ≤ 140737488351232 := by simp; omega
              go_wp2_with fail
              refine (sameTexts_eq _ _ ([120] :: ws) _ hw1k HR5.out HW5.out).mono ?_
              rintro e w6 ⟨rfl, hb6⟩
              have HW6 := Pl.hid (HW5.out.below hb6)
              have HB6 := Pl.hid (HB5.out.trans (hb6.mono HB5.out.size))
              clear hb6
              go_wp2_with fail
              refine (pnew_walk _).mono ?_
              rintro e w7 ⟨rfl, hp7, hs7, hb7⟩
              have HP7 := Pl.hid hp7
              have HB67 := Pl.hid hb7
              have HW7 := Pl.hid (HW6.out.below hb7)
              have HB7 := Pl.hid (HB6.out.trans (hb7.mono HB6.out.size))
              have HPW : Hid (W.heap.size ≤ w6.heap.size) := HB6.out.size
              have HS7 : Hid (w7.heap.size = w6.heap.size + 1) := hs7
              clear hp7 hs7 hb7
              go_wp2_with (refine Mm.wp_tobytes w7 rfl _ (by rfl) (LN ++ ⟨#[13, 10]⟩) (by rfl) ?_; intro c8 w8 hc8 hs8 hcell8 hfr8 hb8; clear hfr8; have HC8 := Pl.hid hc8; have HCL8 := Pl.hid hcell8; have HB8' := Pl.hid hb8; clear hc8 hs8 hcell8 hb8)
              have HT8 : Hid (LN ++ ⟨#[13, 10]⟩ = Pl.B (Pl.quL ws ++ [13, 10])) := by show _ = _; rw [HLN.out, ← Pl.B_append]; rfl
              have HBS8 : Hid (∀ m, m = (Pl.quL ws ++ [13, 10]).length → Mm.Bs w8 (.slice (some ⟨w7.heap.size, 0, none⟩) m c8) (Pl.quL ws ++ [13, 10])) := fun m hm => by
                subst hm
                have hcc := HC8.out
                have hcl := HCL8.out
                rw [HT8.out, Pl.B_size] at hcc hcl
                rw [Pl.L_B] at hcl
                exact ⟨_, _, rfl, hcc, fun e => (by cases e), fun _ => ⟨_, _, rfl, fun k hk => by rw [Nat.zero_add]; exact hcl k hk⟩⟩
              have HW8 := Pl.hid (HW7.out.below HB8'.out)
              have HB8 := Pl.hid (HB7.out.trans (HB8'.out.mono HB7.out.size))
              have HP8 := Pl.hid (HP7.out.below HB8'.out)
              have HFQ : Hid (Pl.feedA Pl.fresh [] (Pl.quL ws ++ [13, 10]) = ({ Pl.fresh with ready := [[120] :: ws] }, [])) := by
                refine Pl.feedA_ok (T := Pl.quL ws ++ [13, 10]) rfl ?_ rfl
                have hfl : (Pl.quL ws ++ [13, 10]).length + 1 = ((Pl.quL ws).length + 1) + 2 := by simp
                rw [hfl]
                exact Pl.feed_qu ws hlw hlq _
              refine (feed_walk w6.heap.size _ (Pl.quL ws ++ [13, 10]) [] Pl.fresh _ W w8 HPW.out HR.out HE.out HI.out HB8.out (by simp; omega) (by decide) (HBS8.out _ (by simp; have := HQL.out; omega)) HP8.out rfl Pl.okP_fresh 0 (by unfold Pl.bnd Pl.fresh; simp) (by simp; omega)).mono ?_
              rw [HFQ.out]
              rintro e w9 ⟨rfl, G9, hp9, hc9⟩
              have HN9 := Pl.hid hp9.asked
              have HB68 : Hid (Below w6.heap.size w6 w8) := HB67.out.trans (HB8'.out.mono HB67.out.size)
              have HB69 : Hid (Below w6.heap.size w6 w9) := hc9.under0 (Nat.le_refl _) HB68.out (fun g hg => by rw [hg]; exact Nat.le_refl _)
              have HB9 := Pl.hid (HB6.out.trans (HB69.out.mono HPW.out))
              have HW9 := Pl.hid (HW6.out.below HB69.out)
              clear hp9 hc9
              go_wp2_with fail
              refine (pnext_some w6.heap.size ([120] :: ws) [] _ 0 w9 HN9.out).mono ?_
              rintro e w10 ⟨⟨va, rfl, hoa⟩, hn10, hg10⟩
              have HOA := Pl.hid hoa.rowT
              have HN10 := Pl.hid hn10
              have HB610 : Hid (Below w6.heap.size w6 w10) := HB69.out.grown hg10 HB69.out.size (fun k hk => by injection hk with hk; omega)
              have HB10 := Pl.hid (HB6.out.trans (HB610.out.mono HPW.out))
              have HW10 := Pl.hid (HW6.out.below HB610.out)
              clear hoa hn10 hg10
              go_wp2_with fail
              refine (sameTexts_eq _ _ ([120] :: ws) _ hw1k HOA.out HW10.out).mono ?_
              rintro e w11 ⟨rfl, hb11⟩
              have HN11 := Pl.hid (HN10.out.below hb11)
              have HB11 := Pl.hid (HB10.out.trans (hb11.mono HB10.out.size))
              clear hb11
              go_wp2_with fail
              refine (pheld_walk w6.heap.size [] _ 0 _ HN11.out (by unfold Pl.fresh; simp) (by decide)).mono ?_
              rintro e w12 ⟨rfl, hb12⟩
              have HN12 := Pl.hid (HN11.out.below hb12)
              have HB12 := Pl.hid (HB11.out.trans (hb12.mono HB11.out.size))
              rw [show (({ Pl.fresh with ready := [[120] :: ws] } : Pl.Pst).used + 0 : Nat) = 0 from rfl]
              clear hb12
              go_wp2_with fail
              refine (perr_walk w6.heap.size [] _ 0 w12 HN12.out).mono ?_
              rintro e w13 ⟨⟨ev, rfl, he⟩, rfl⟩
              obtain rfl : ev = .nilIface := by
                rcases he with ⟨h, _⟩ | ⟨_, h⟩
                · cases h
                · exact h
              clear he
              go_wp2_with fail
              go_ret
              exact ⟨rfl, HB12.out⟩
    · skip
      go_wp2_with fail
      have HQI : Hid (Pl.inl 1026 (Pl.L LN) [] = (0, [120] :: ws)) := by show _ = _; rw [HLN.out, Pl.L_B]; exact Pl.inl_line ws 1026 (by omega) hlw
      refine (inline_ok LN 1026 ([120] :: ws) _ (by omega) HQI.out).mono ?_
      rintro e w5 ⟨nv, rfl, hown, hb5⟩
      have HR5 := Pl.hid hown.rowT
      have HW5 := Pl.hid (HO.out.below hb5).rowT
      have HB5 := Pl.hid (HB.out.trans (hb5.mono HB.out.size))
      obtain ⟨na, nc, rfl, _⟩ := hown.val
      clear hown hb5
      have hw1k : ([120] :: ws).length ≤ 140737488351232 := by simp; omega
      go_wp2_with fail
      refine (sameTexts_eq _ _ ([120] :: ws) _ hw1k HR5.out HW5.out).mono ?_
      rintro e w6 ⟨rfl, hb6⟩
      have HW6 := Pl.hid (HW5.out.below hb6)
      have HB6 := Pl.hid (HB5.out.trans (hb6.mono HB5.out.size))
      clear hb6
      go_wp2_with fail
      refine (pnew_walk _).mono ?_
      rintro e w7 ⟨rfl, hp7, hs7, hb7⟩
      have HP7 := Pl.hid hp7
      have HB67 := Pl.hid hb7
      have HW7 := Pl.hid (HW6.out.below hb7)
      have HB7 := Pl.hid (HB6.out.trans (hb7.mono HB6.out.size))
      have HPW : Hid (W.heap.size ≤ w6.heap.size) := HB6.out.size
      have HS7 : Hid (w7.heap.size = w6.heap.size + 1) := hs7
      clear hp7 hs7 hb7
      go_wp2_with (refine Mm.wp_tobytes w7 rfl _ (by rfl) (LN ++ ⟨#[13, 10]⟩) (by rfl) ?_; intro c8 w8 hc8 hs8 hcell8 hfr8 hb8; clear hfr8; have HC8 := Pl.hid hc8; have HCL8 := Pl.hid hcell8; have HB8' := Pl.hid hb8; clear hc8 hs8 hcell8 hb8)
      have HT8 : Hid (LN ++ ⟨#[13, 10]⟩ = Pl.B (Pl.quL ws ++ [13, 10])) := by show _ = _; rw [HLN.out, ← Pl.B_append]; rfl
      have HBS8 : Hid (∀ m, m = (Pl.quL ws ++ [13, 10]).length → Mm.Bs w8 (.slice (some ⟨w7.heap.size, 0, none⟩) m c8) (Pl.quL ws ++ [13, 10])) := fun m hm => by
        subst hm
        have hcc := HC8.out
        have hcl := HCL8.out
        rw [HT8.out, Pl.B_size] at hcc hcl
        rw [Pl.L_B] at hcl
        exact ⟨_, _, rfl, hcc, fun e => (by cases e), fun _ => ⟨_, _, rfl, fun k hk => by rw [Nat.zero_add]; exact hcl k hk⟩⟩
      have HW8 := Pl.hid (HW7.out.below HB8'.out)
      have HB8 := Pl.hid (HB7.out.trans (HB8'.out.mono HB7.out.size))
      have HP8 := Pl.hid (HP7.out.below HB8'.out)
      have HFQ : Hid (Pl.feedA Pl.fresh [] (Pl.quL ws ++ [13, 10]) = ({ Pl.fresh with ready := [[120] :: ws] }, [])) := by
        refine Pl.feedA_ok (T := Pl.quL ws ++ [13, 10]) rfl ?_ rfl
        have hfl : (Pl.quL ws ++ [13, 10]).length + 1 = ((Pl.quL ws).length + 1) + 2 := by simp
        rw [hfl]
        exact Pl.feed_qu ws hlw hlq _
      refine (feed_walk w6.heap.size _ (Pl.quL ws ++ [13, 10]) [] Pl.fresh _ W w8 HPW.out HR.out HE.out HI.out HB8.out (by simp; omega) (by decide) (HBS8.out _ (by simp; have := HQL.out; omega)) HP8.out rfl Pl.okP_fresh 0 (by unfold Pl.bnd Pl.fresh; simp) (by simp; omega)).mono ?_
      rw [HFQ.out]
      rintro e w9 ⟨rfl, G9, hp9, hc9⟩
      have HN9 := Pl.hid hp9.asked
      have HB68 : Hid (Below w6.heap.size w6 w8) := HB67.out.trans (HB8'.out.mono HB67.out.size)
      have HB69 : Hid (Below w6.heap.size w6 w9) := hc9.under0 (Nat.le_refl _) HB68.out (fun g hg => by rw [hg]; exact Nat.le_refl _)
      have HB9 := Pl.hid (HB6.out.trans (HB69.out.mono HPW.out))
      have HW9 := Pl.hid (HW6.out.below HB69.out)
      clear hp9 hc9
      go_wp2_with fail
      refine (pnext_some w6.heap.size ([120] :: ws) [] _ 0 w9 HN9.out).mono ?_
      rintro e w10 ⟨⟨va, rfl, hoa⟩, hn10, hg10⟩
      have HOA := Pl.hid hoa.rowT
      have HN10 := Pl.hid hn10
      have HB610 : Hid (Below w6.heap.size w6 w10) := HB69.out.grown hg10 HB69.out.size (fun k hk => by injection hk with hk; omega)
      have HB10 := Pl.hid (HB6.out.trans (HB610.out.mono HPW.out))
      have HW10 := Pl.hid (HW6.out.below HB610.out)
      clear hoa hn10 hg10
      go_wp2_with fail
      refine (sameTexts_eq _ _ ([120] :: ws) _ hw1k HOA.out HW10.out).mono ?_
      rintro e w11 ⟨rfl, hb11⟩
      have HN11 := Pl.hid (HN10.out.below hb11)
      have HB11 := Pl.hid (HB10.out.trans (hb11.mono HB10.out.size))
      clear hb11
      go_wp2_with fail
      refine (pheld_walk w6.heap.size [] _ 0 _ HN11.out (by unfold Pl.fresh; simp) (by decide)).mono ?_
      rintro e w12 ⟨rfl, hb12⟩
      have HN12 := Pl.hid (HN11.out.below hb12)
      have HB12 := Pl.hid (HB11.out.trans (hb12.mono HB11.out.size))
      rw [show (({ Pl.fresh with ready := [[120] :: ws] } : Pl.Pst).used + 0 : Nat) = 0 from rfl]
      clear hb12
      go_wp2_with fail
      refine (perr_walk w6.heap.size [] _ 0 w12 HN12.out).mono ?_
      rintro e w13 ⟨⟨ev, rfl, he⟩, rfl⟩
      obtain rfl : ev = .nilIface := by
        rcases he with ⟨h, _⟩ | ⟨_, h⟩
        · cases h
        · exact h
      clear he
      go_wp2_with fail
      go_ret
      exact ⟨rfl, HB12.out⟩
end Go.Proofs.YtakldjdohgmeiaaDoor
