/- reply's lay of an array of bulks; Bulks; Request. Conditions stand in each law. -/
import Derived.Test.YtakldjdohgmeiaaDoorBulA
namespace Go.Proofs.YtakldjdohgmeiaaDoor
open Go.RowKit
set_option maxRecDepth 20000

namespace Pl
def bulkT (s : List UInt8) : RT := RT.mk 4 (B s) 0 []
def reqT (ws : List (List UInt8)) : RT := RT.mk 6 ⟨#[]⟩ 0 (ws.map bulkT)
theorem bulkE_len (s : List UInt8) (h : s.length ≤ 9223372036854775807) : (bulkE s).length ≤ s.length + 26 ∧ s.length + 5 ≤ (bulkE s).length := by
  have := dec_len s.length h
  unfold bulkE crlf
  simp only [List.length_append, List.length_cons, List.length_nil]
  omega
theorem flat_take (ws : List (List UInt8)) (i : Nat) (s : List UInt8) (h : ws[i]? = some s) : (ws.take (i + 1)).flatMap bulkE = (ws.take i).flatMap bulkE ++ bulkE s := by
  rw [List.take_add_one, h]
  simp
theorem flat_le (ws : List (List UInt8)) (i : Nat) : ((ws.take i).flatMap bulkE).length ≤ (ws.flatMap bulkE).length := by
  conv => rhs; rw [← List.take_append_drop i ws]
  rw [List.flatMap_append, List.length_append]
  omega
end Pl

set_option maxHeartbeats 8000000 in
theorem lay_arr (ws : List (List UInt8)) (c0 c1 c2 c3 : Value) (base : Nat) (v : Value) (l : List UInt8) (W w : World) (hT : Mm.Tab W) (hX : Mm.RepX W (Pl.reqT ws) [c0, c1, c2, c3]) (hW : Below W.heap.size W w) (hWb : W.heap.size ≤ base) (hb : base ≤ w.heap.size) (ho : Mm.OwnB w base v l)
    (hl : l.length + (Pl.reqE ws).length ≤ 1099511627776) (hn : ws.length ≤ 1099511627776) (hs : ∀ s ∈ ws, s.length ≤ 1099511627776) :
    Calls Tryd.prog 48 #[v, .agg #[c0, c1, c2, c3]] w fun e w' => ∃ v', e = .returned v' ∧ Mm.OwnB w' base v' (l ++ Pl.reqE ws) ∧ Below base w w' ∧ Mm.NB w w' := by
  obtain ⟨la, lc, hcs, hel⟩ := hX.open
  obtain ⟨rfl, rfl, rfl, rfl⟩ : c0 = .int .i64 6 ∧ c1 = .string ⟨#[]⟩ ∧ c2 = .int .i64 0 ∧ c3 = .slice la (ws.map Pl.bulkT).length lc := by
    injection hcs with h0 hcs
    injection hcs with h1 hcs
    injection hcs with h2 hcs
    injection hcs with h3 hcs
    exact ⟨h0, h1, h2, h3⟩
  obtain ⟨n, hnn⟩ : ∃ n, n = ws.length := ⟨_, rfl⟩
  have hml : (ws.map Pl.bulkT).length = n := by rw [List.length_map, hnn]
  have hel' : n = 0 ∨ ∃ b, la = some ⟨b, 0, none⟩ ∧ b < W.heap.size ∧ ∀ (i : Nat) (s : List UInt8), ws[i]? = some s → ∃ f0 f1 f2 f3, W.cell? ⟨b, i * 4, none⟩ = some f0 ∧ W.cell? ⟨b, i * 4 + 1, none⟩ = some f1 ∧ W.cell? ⟨b, i * 4 + 2, none⟩ = some f2 ∧ W.cell? ⟨b, i * 4 + 3, none⟩ = some f3 ∧ Mm.RepX W (Pl.bulkT s) [f0, f1, f2, f3] := by
    rcases hel with h0 | ⟨b, h1, h2, h3⟩
    · exact .inl (by omega)
    · refine .inr ⟨b, h1, h2, fun i s hs => ?_⟩
      have hi : i < (ws.map Pl.bulkT).length := by rw [List.length_map]; exact (List.getElem?_eq_some_iff.1 hs).1
      obtain ⟨f0, f1, f2, f3, g0, g1, g2, g3, hr⟩ := h3 i hi
      refine ⟨f0, f1, f2, f3, g0, g1, g2, g3, ?_⟩
      have e : (ws.map Pl.bulkT)[i]'hi = Pl.bulkT s := by
        have : (ws.map Pl.bulkT)[i]? = some (Pl.bulkT s) := by rw [List.getElem?_map, hs]; rfl
        rw [List.getElem?_eq_getElem hi] at this
        injection this
      rwa [e] at hr
  clear hel
  rw [hml]
  obtain ⟨p, hp⟩ : ∃ p, p = w.heap.size := ⟨_, rfl⟩
  obtain ⟨w0, hw0⟩ : ∃ w0, w0 = w.alloc (.cells #[.int .i64 6, .string ⟨#[]⟩, .int .i64 0, .slice la n lc] 31) := ⟨_, rfl⟩
  have HP0 : Hid (w0.heap[p]? = some (.cells #[.int .i64 6, .string ⟨#[]⟩, .int .i64 0, .slice la n lc] 31 (0, 0))) := by
    show _ = _
    rw [hw0, hp]
    exact heap_alloc_new w _
  have HB0 : Hid (Below w.heap.size w w0) := by rw [hw0]; exact (Below.refl _ _).alloc (Nat.le_refl _) _
  have HS0 : Hid (w0.heap.size = w.heap.size + 1) := by show _ = _; rw [hw0]; simp
  have hnu : ¬ Mm.isU8 (.cells #[.int .i64 6, .string ⟨#[]⟩, .int .i64 0, .slice la n lc] 31 (0, 0)) := by
    rintro ⟨cs, fr, e⟩
    injection e with _ e _
    exact absurd e (by decide)
  have HK : Hid (∀ V, Mm.NB w0 V → V.cell? ⟨p, 0, none⟩ = some (.int .i64 6) ∧ V.cell? ⟨p, 3, none⟩ = some (.slice la n lc)) := fun V hV => by
    have h := hV p _ HP0.out hnu
    exact ⟨Mm.cellOf h rfl, Mm.cellOf h rfl⟩
  have HO0 : Hid (Mm.OwnB w0 base v l) := ho.keep fun g hg => HB0.out.block g (ho.lt g hg).2
  have HW := Pl.hid hW
  have HT := Pl.hid hT
  have HWb := Pl.hid hWb
  have hb0 : base ≤ w0.heap.size := by rw [HS0.out]; omega
  have HBB := Pl.hid hb
  have HEL := Pl.hid hel'
  have HNN := Pl.hid hnn
  have HSS := Pl.hid hs
  obtain ⟨k0, k3⟩ := HK.out w0 (Mm.NB.refl _)
  have HW0eq := Pl.hid hw0
  have HPeq := Pl.hid hp
  obtain ⟨TX, hTX⟩ : ∃ TX, TX = Pl.B (Lib.itoa (n : Int)) := ⟨_, rfl⟩
  have hn' : n ≤ 1099511627776 := by omega
  have hTs : TX.size ≤ 21 := by rw [hTX, Pl.B_size]; exact Pl.itoa_le _ (by unfold Pl.In64; omega)
  have HTX : Hid (TX = Pl.B (Lib.decDigits n)) := by
    show _ = _
    rw [hTX, Pl.itoa_pos (by omega)]
    rfl
  have HTW := Pl.hid (fun w' (hw' : Mm.Tab w') => text_walk (n : Int) w' (by unfold Pl.In64; omega) hw')
  rw [← hTX] at HTW
  have hlL : l.length ≤ 1099511627776 := by omega
  have HLL := Pl.hid hl
  have H13 : Hid ((TX ++ (⟨#[13, 10]⟩ : ByteArray)).size ≤ 23) := by
    show _ ≤ _
    rw [ByteArray.size_append, show (⟨#[13, 10]⟩ : ByteArray).size = 2 from rfl]
    omega
  have HE0 : Hid (l ++ [42] ++ Pl.L (TX ++ (⟨#[13, 10]⟩ : ByteArray)) = l ++ ([42] ++ Lib.decDigits n ++ Pl.crlf)) := by
    show _ = _
    rw [HTX.out, show (⟨#[13, 10]⟩ : ByteArray) = Pl.B Pl.crlf from rfl, Pl.B_append, Pl.L_B]
    simp
  clear hTX hw0 hp hnu ho hW hT hX hcs hel' hml hnn hs hl
  go_enter Tryd.func48, Tryd.ntmps48
  go_wp2_with fail
  rw [← HW0eq.out, ← HPeq.out]
  refine (sign_6 w0).mono ?_
  rintro e w0' ⟨rfl, rfl⟩
  go_wp2_with (at_builtin; refine Mm.wp_app1N w0 rfl _ _ (by rfl) base v l 42 (by rfl) (by rfl) HO0.out (by omega) hb0 ?_; intro v1 w1 ho1 hb1 hn1; have HO1 := Pl.hid ho1; have HB1 := Pl.hid hb1; have HN1 := Pl.hid hn1; clear ho1 hb1 hn1 k0 k3; obtain ⟨k0, k3⟩ := HK.out w1 HN1.out)
  have HW1 : Hid (Below W.heap.size W w1) := HW.out.trans (((HB0.out.mono HBB.out).trans HB1.out).mono HWb.out)
  refine (HTW.out w1 (HT.out.on HW1.out)).mono ?_
  rintro e w2 ⟨rfl, hb2⟩
  have HN2 := Pl.hid (HN1.out.trans (Mm.NB.below hb2))
  have HB2 := Pl.hid (HB1.out.trans (hb2.mono (Nat.le_trans hb0 HB1.out.size)))
  have HO2 : Hid (Mm.OwnB w2 base v1 (l ++ [42])) := HO1.out.keep fun g hg => hb2.block g (HO1.out.lt g hg).2
  clear hb2 k0 k3
  obtain ⟨k0, k3⟩ := HK.out w2 HN2.out
  have hb2s : base ≤ w2.heap.size := Nat.le_trans hb0 HB2.out.size
  go_wp2_with (at_builtin; refine Mm.wp_appSN w2 rfl _ _ (by rfl) base v1 (l ++ [42]) (TX ++ (⟨#[13, 10]⟩ : ByteArray)) (by rfl) (by rfl) HO2.out (by have := H13.out; rw [List.length_append]; simp only [List.length_cons, List.length_nil]; omega) hb2s ?_; intro v3 w3 ho3 hb3 hn3; rw [HE0.out] at ho3; have HO3 := Pl.hid ho3; have HB3 := Pl.hid (HB2.out.trans hb3); have HN3 := Pl.hid (HN2.out.trans hn3); clear ho3 hb3 hn3 k0 k3; obtain ⟨k0, k3⟩ := HK.out w3 HN3.out)
  have HB03 : Hid (Below base w w3) := (HB0.out.mono HBB.out).trans HB3.out
  clear k0 k3
  go_loopw [50, 0] (fun iv bvv wr => ∃ (i : Nat) (bv : Value), iv = .int .i64 i ∧ bv = bvv ∧ i ≤ n ∧ Hid (Mm.OwnB wr base bv (l ++ ([42] ++ Lib.decDigits n ++ Pl.crlf) ++ (ws.take i).flatMap Pl.bulkE)) ∧ Hid (Below base w wr) ∧ Hid (Mm.NB w0 wr)) (fun iv _ _ => n - (intOf iv).toNat)
  case atStart => exact ⟨0, _, rfl, rfl, Nat.zero_le _, by show Mm.OwnB _ _ _ _; rw [List.take_zero, List.flatMap_nil, List.append_nil]; exact HO3.out, HB03.out, HN3.out⟩
  case round =>
    obtain ⟨i, bv, rfl, rfl, hi, HO, HB, HN⟩ := hrel
    rcases Nat.lt_or_ge i n with hlt | hge
    · rcases HEL.out with h0 | ⟨blk, rfl, hbl, hel⟩
      · omega
      obtain ⟨s, hs⟩ : ∃ s, ws[i]? = some s := ⟨_, List.getElem?_eq_getElem (by rw [← HNN.out]; exact hlt)⟩
      obtain ⟨f0, f1, f2, f3, g0, g1, g2, g3, hrep⟩ := hel i s hs
      have HWr : Hid (Below W.heap.size W wr) := HW.out.trans (HB.out.mono HWb.out)
      have e0 := (HWr.out.cell (p := ⟨blk, i * 4, none⟩) hbl).trans g0
      have e1 := (HWr.out.cell (p := ⟨blk, i * 4 + 1, none⟩) hbl).trans g1
      have e2 := (HWr.out.cell (p := ⟨blk, i * 4 + 2, none⟩) hbl).trans g2
      have e3 := (HWr.out.cell (p := ⟨blk, i * 4 + 3, none⟩) hbl).trans g3
      have hone := hrep.one
      obtain ⟨la', lc', hcs', _⟩ := hrep.open
      obtain ⟨rfl, rfl, rfl, rfl⟩ : f0 = .int .i64 4 ∧ f1 = .string (Pl.B s) ∧ f2 = .int .i64 0 ∧ f3 = .slice la' 0 lc' := by
        injection hcs' with h0 hcs'
        injection hcs' with h1 hcs'
        injection hcs' with h2 hcs'
        injection hcs' with h3 hcs'
        exact ⟨h0, h1, h2, h3⟩
      have HONE := Pl.hid hone
      have HS := Pl.hid hs
      have hsl : s.length ≤ 1099511627776 := HSS.out s (List.mem_of_getElem? hs)
      clear g0 g1 g2 g3 hrep hcs' hel hs hone
      obtain ⟨q, hq⟩ : ∃ q, q = wr.heap.size := ⟨_, rfl⟩
      have HQ := Pl.hid hq
      clear hq
      go_wp2_with (refine Mm.wp_store4 _ rfl _ _ rfl wr.heap.size _ _ _ _ _ _ (heap_alloc_new wr _) rfl rfl rfl HONE.out ?_; intro w4 hw4 hs4 hg4; have HW4 := Pl.hid hw4; have HG4 := Pl.hid hg4; have HS4 := Pl.hid hs4; clear hw4 hs4 hg4; have q0 := Mm.cellOf (i := 0) (v := .int .i64 4) HW4.out rfl; have q1 := Mm.cellOf (i := 1) (v := .string (Pl.B s)) HW4.out rfl; have q2 := Mm.cellOf (i := 2) (v := .int .i64 0) HW4.out rfl; have q3 := Mm.cellOf (i := 3) (v := .slice la' 0 lc') HW4.out rfl; clear e0 e1 e2 e3)
      have HN4 : Hid (Mm.NB w0 w4) := by
        refine HN.out.trans fun g o hg _ => ?_
        have hgl := (Array.getElem?_eq_some_iff.1 hg).1
        exact (HG4.out.block g (by simp; omega) (fun e => by injection e with e; omega)).trans ((Below.heap_alloc _ _ _ hgl).trans hg)
      have HB4 : Hid (Below base w w4) := by
        have hz : base ≤ wr.heap.size := Nat.le_trans HBB.out HB.out.size
        refine (HB.out.alloc hz (.cells #[.int .i64 0, .string ⟨#[]⟩, .int .i64 0, .slice none 0 0] 31)).grown HG4.out (by simp; omega) (fun k hk => by injection hk with hk; omega)
      have HO4 : Hid (Mm.OwnB w4 base bv (l ++ ([42] ++ Lib.decDigits n ++ Pl.crlf) ++ (ws.take i).flatMap Pl.bulkE)) := (HO.out.keep (w' := wr.alloc (.cells #[.int .i64 0, .string ⟨#[]⟩, .int .i64 0, .slice none 0 0] 31)) (fun g hg => Below.heap_alloc _ _ _ (HO.out.lt g hg).2)).keep fun g hg => HG4.out.block g (by have := (HO.out.lt g hg).2; simp; omega) (fun e => by injection e with e; have := (HO.out.lt g hg).2; omega)
      have hb4 : base ≤ w4.heap.size := Nat.le_trans HBB.out HB4.out.size
      have hlen4 : (l ++ ([42] ++ Lib.decDigits n ++ Pl.crlf) ++ (ws.take i).flatMap Pl.bulkE).length ≤ 1099511627776 := by
        have h1 := Pl.flat_le ws i
        have h2 := HLL.out
        rw [HNN.out]
        unfold Pl.reqE at h2
        simp only [List.length_append] at h2 ⊢
        omega
      refine (lay_bulk (Pl.B s) la' lc' base bv _ W w4 HT.out (HW.out.trans (HB4.out.mono HWb.out)) HWb.out hb4 HO4.out hlen4 (by rw [Pl.B_size]; exact hsl)).mono ?_
      rintro e w5 ⟨v5, rfl, ho5, hb5, hn5⟩
      have HO5 : Hid (Mm.OwnB w5 base v5 (l ++ ([42] ++ Lib.decDigits n ++ Pl.crlf) ++ (ws.take (i + 1)).flatMap Pl.bulkE)) := by
        rw [Pl.flat_take ws i s HS.out, ← List.append_assoc]
        rw [Pl.L_B] at ho5
        exact ho5
      have HB5 := Pl.hid (HB4.out.trans hb5)
      have HN5 := Pl.hid (HN4.out.trans hn5)
      clear ho5 hb5 hn5 q0 q1 q2 q3
      go_wp2_with fail
      go_roundw
      case rel => exact ⟨i + 1, v5, by go_num, rfl, by omega, HO5, HB5, HN5⟩
      case measure => simp [intOf]; omega
    · obtain rfl : i = n := by omega
      go_wp2_with fail
      go_ret
      refine ⟨_, rfl, ?_, HB.out, (Mm.NB.below HB0.out).trans HN.out⟩
      have h := HO.out
      rw [HNN.out, List.take_length] at h
      unfold Pl.reqE
      simpa using h
end Go.Proofs.YtakldjdohgmeiaaDoor
