/- A parser's number: Go's number. Conditions stand in the law. -/
import Derived.Test.YtakldjdohgmeiaaDoorParB
namespace Go.Proofs.YtakldjdohgmeiaaDoor
open Go.RowKit
set_option maxRecDepth 20000

namespace Pl
theorem hasSuffix_cr (t : List UInt8) : Lib.hasSuffix t [13] = crB t := by
  unfold Lib.hasSuffix crB
  rcases List.eq_nil_or_concat t with rfl | ⟨a, c, rfl⟩
  · rfl
  · rw [List.concat_eq_append, List.getLast?_append, Bool.eq_iff_iff]
    simp only [List.isSuffixOf_iff_suffix, decide_eq_true_eq]
    constructor
    · rintro ⟨b, hb⟩
      have := congrArg List.getLast? hb
      simpa using this.symm
    · intro h
      obtain rfl : c = 13 := by simpa using h
      exact List.suffix_append _ _
theorem crB_pos {t : List UInt8} (h : crB t = true) : 0 < t.length := by
  cases t with
  | nil => simp [crB] at h
  | cons _ _ => simp
theorem trim_yes {t : List UInt8} (h : crB t = true) (g o k : Nat) : Lib.trimSuffixV (some ⟨g, o, none⟩) (k + 1) (k + 1) (natL t) [13] = .slice (some ⟨g, o, none⟩) k (k + 1) := by
  show Lib.bytesTrimSuffix g o (k + 1) (k + 1) (natL t) [13] = _
  unfold Lib.bytesTrimSuffix
  rw [bytesOf_natL, show Lib.bytesOf [13] = [13] from rfl, hasSuffix_cr, if_pos h]
  rfl
theorem trim_no {t : List UInt8} (h : crB t = false) (g o k : Nat) : Lib.trimSuffixV (some ⟨g, o, none⟩) k k (natL t) [13] = .slice (some ⟨g, o, none⟩) k k := by
  show Lib.bytesTrimSuffix g o k k (natL t) [13] = _
  unfold Lib.bytesTrimSuffix
  rw [bytesOf_natL, show Lib.bytesOf [13] = [13] from rfl, hasSuffix_cr, h]
  rfl
def nuE : Option (Int × Nat) → Ending
  | some (n, k) => .returned (.tuple #[.int .i64 n, .int .i64 (k : Int), .bool true])
  | none => .returned (.tuple #[.int .i64 0, .int .i64 0, .bool false])
theorem numM_some {l t : List UInt8} {lo hi : Int} (h : lineM l 32 = some t) : numM l lo hi = if numOk t lo hi = true then (some (rIv t.dropLast.tail, t.length + 1), false) else (none, true) := by unfold numM; rw [h]
end Pl

namespace Mm
open Pl
theorem conv_at (w : World) (g o n c : Nat) (l : List UInt8) (hl : l.length = n) (h : BytesAt w g o l) :
    (convert 24 9 (.slice (some ⟨g, o, none⟩) n c)).run Tryd.prog w = .ok (.string (B l)) w := by
  subst hl
  have := run_convert_bytes_back (P := Tryd.prog) w 24 9 5 ⟨g, o, none⟩ c l Tryd.underlying24 Tryd.underlying5 Tryd.underlying9 (fun j hj => by
    have e : (⟨g, o, none⟩ : Addr).add j = ⟨g, o + j, none⟩ := by unfold Addr.add; split <;> simp_all
    rw [e, h j hj]
    unfold at_
    rw [List.getD_eq_getElem?_getD, List.getElem?_eq_getElem hj]
    rfl)
  exact this
theorem PQ.below {w w' : World} {p : Nat} {bv : Value} {st : Pst} {F : Nat → Prop} (h : PQ w p bv st F) (hb : Below w.heap.size w w') : PQ w' p bv st F := by
  obtain ⟨wv, rv, ev, rows, h, rfl⟩ := h
  exact ⟨wv, rv, ev, rows, h.below hb, rfl⟩
theorem gBelow {a b : World} {r : Option Nat} (h : Below a.heap.size a b) : a.grownBy b r := ⟨h.os, h.tape, h.output, h.size, fun i hi _ => h.block i hi⟩
theorem gTrans {a b c : World} {r : Option Nat} (h : a.grownBy b r) (k : b.grownBy c r) : a.grownBy c r :=
  ⟨k.os.trans h.os, k.tape.trans h.tape, k.output.trans h.output, Nat.le_trans h.size k.size, fun i hi hn => (k.block i (Nat.lt_of_lt_of_le hi h.size) hn).trans (h.block i hi hn)⟩
end Mm

set_option maxHeartbeats 4000000 in
theorem number_walk (p g o c : Nat) (lo hi : Int) (l : List UInt8) (bv : Value) (st : Pl.Pst) (F : Nat → Prop) (T : TypeId) (xv : Value) (W w : World) (hR : Mm.RErr W) (hE : Mm.Errs W) (hW : Below W.heap.size W w) (hl : l.length ≤ 140737488351232) (hc : l.length ≤ c) (h0 : 0 < l.length) (h : Mm.BytesAt w g o l)
    (hp : Mm.PQ w p bv st F) (he : st.err = false) :
    Calls Tryd.prog 87 #[.pointer (some ⟨p, 0, none⟩), .slice (some ⟨g, o, none⟩) l.length c, .int .i64 lo, .int .i64 hi, .iface T xv] w fun e w' => e = Pl.nuE (Pl.numM l lo hi).1 ∧ Mm.PQ w' p bv { st with err := (Pl.numM l lo hi).2 } F ∧ w.grownBy w' (some p) := by
  have HE := Pl.hid hE
  have HR := Pl.hid hR
  have HW := Pl.hid hW
  have HM := Pl.hid h
  have HP := Pl.hid hp
  have He := Pl.hid he
  clear hE hR hW h hp he
  cases hline : Pl.lineM l 32 with
  | none =>
    have hq : Pl.numM l lo hi = (none, decide (32 < l.length)) := by unfold Pl.numM; rw [hline]
    rw [hq]
    have HL := Pl.hid hline
    clear hline hq
    go_enter Tryd.func87, Tryd.ntmps87
    go_wp2_with fail
    refine (line_none p g o c 32 32 rfl l bv st F W w HR.out HW.out hl hc (by decide) HM.out HL.out HP.out He.out).mono ?_
    rintro e w1 ⟨rfl, hp1, hg1⟩
    have HP1 := Pl.hid hp1
    have HG1 := Pl.hid hg1
    clear hp1 hg1
    go_wp2_with fail
    go_ret3
    exact ⟨rfl, HP1.out, HG1.out⟩
  | some t =>
    rw [Pl.numM_some hline]
    have HL := Pl.hid hline
    obtain ⟨_, _, ht, htl, ht32⟩ := Pl.lineM_some hline
    have HMt : Hid (Mm.BytesAt w g o t) := by
      have := HM.out.take t.length
      rwa [← ht] at this
    have htc : t.length ≤ c := by omega
    clear hline ht
    have HB1 := Pl.hid ((Below.refl w.heap.size w).alloc (Nat.le_refl _) (.cells #[.int .u8 13] 5))
    have HX1 : Hid (Lib.BytesIn (w.alloc (.cells #[.int .u8 13] 5)) (some ⟨g, o, none⟩) t.length (Pl.natL t)) := Mm.BytesAt.byteIn (g := g) (o := o) fun hpos => ⟨rfl, HMt.out.keep (HB1.out.block g (HMt.out.lt hpos))⟩
    have HX2 : Hid (Lib.BytesIn (w.alloc (.cells #[.int .u8 13] 5)) (some ⟨w.heap.size, 0, none⟩) 1 [13]) := fun _ => ⟨w.heap.size, 0, rfl, fun i hi => by
      rw [World.cell?_alloc_mark]
      match i, hi with
      | 0, _ => rfl⟩
    cases hcr : Pl.crB t with
    | false =>
      have hno : Pl.numOk t lo hi = false := by unfold Pl.numOk; rw [hcr]; rfl
      rw [hno, if_neg (by simp)]
      clear hno
      obtain ⟨wv, rv, ev, rows, hv, rfl⟩ := HP.out
      obtain ⟨Tt, xx, hx⟩ := (HR.out.on (HW.out.trans (HB1.out.mono HW.out.size))).here 3 (by simp)
      have HV := Pl.hid (hv.below HB1.out)
      have hpl := hv.lt
      have HT := Pl.hid (Pl.trim_no hcr g o t.length)
      have HS : Hid (Lib.hasSuffix (Lib.bytesOf (Pl.natL t)) (Lib.bytesOf [13]) = false) := by
        show _ = _
        rw [Pl.bytesOf_natL]
        exact (Pl.hasSuffix_cr t).trans hcr
      clear hcr hv
      have ht47 : t.length ≤ 9223372036854775807 := by omega
      clear htl ht32
      go_enter Tryd.func87, Tryd.ntmps87
      go_wp2_with fail
      refine (line_some _ g o c 32 32 rfl l t w hl hc h0 (by decide) HM.out HL.out).mono ?_
      rintro e w1 ⟨rfl, rfl⟩
      go_wp2_with fail
      refine (Tryd.bytes_CutSuffix_all _ _ t.length t.length 1 1 (Pl.natL t) [13] _ (Pl.natL_length t) rfl (Nat.le_refl _) ht47 HX1.out HX2.out).mono ?_
      rw [HT.out, HS.out]
      rintro e w1 ⟨rfl, rfl⟩
      go_wp2_with (first | (refine Mm.wp_storeF _ rfl 53 _ _ (by rfl) (by kernel_rfl) p 7 90 (Mm.cellsP bv wv rv ev st) (.iface Tt xx) HV.out.1 (by rfl) (by rfl) (by simp [Mm.cellsP]) rfl rfl ?_; intro w2 h2 hz2 hg2; clear hz2))
      go_ret3
      exact ⟨rfl, ⟨wv, rv, .iface Tt xx, rows, HV.out.store hg2 h2 rfl rfl (.inl ⟨rfl, _, _, rfl⟩), rfl⟩, Mm.gTrans (Mm.gBelow HB1.out) hg2⟩
    | true =>
      obtain ⟨k, hk⟩ : ∃ k, t.length = k + 1 := ⟨t.length - 1, by have := Pl.crB_pos hcr; omega⟩
      have HT := Pl.hid (Pl.trim_yes hcr g o k)
      have HS : Hid (Lib.hasSuffix (Lib.bytesOf (Pl.natL t)) (Lib.bytesOf [13]) = true) := by
        show _ = _
        rw [Pl.bytesOf_natL]
        exact (Pl.hasSuffix_cr t).trans hcr
      have HK := Pl.hid hk
      rw [hk] at HX1
      have HNL := Pl.hid ((Pl.natL_length t).trans hk)
      cases k with
      | zero =>
        have hno : Pl.numOk t lo hi = false := by unfold Pl.numOk; rw [decide_eq_false (show ¬ 2 ≤ t.length by omega)]; simp
        rw [hno, if_neg (by simp)]
        clear hno hk hcr
        obtain ⟨wv, rv, ev, rows, hv, rfl⟩ := HP.out
        obtain ⟨Tt, xx, hx⟩ := (HR.out.on (HW.out.trans (HB1.out.mono HW.out.size))).here 3 (by simp)
        have HV := Pl.hid (hv.below HB1.out)
        have hpl := hv.lt
        clear hv
        clear htl ht32
        go_enter Tryd.func87, Tryd.ntmps87
        go_wp2_with fail
        refine (line_some _ g o c 32 32 rfl l t w hl hc h0 (by decide) HM.out HL.out).mono ?_
        rw [HK.out]
        rintro e w1 ⟨rfl, rfl⟩
        go_wp2_with fail
        refine (Tryd.bytes_CutSuffix_all _ _ 1 1 1 1 (Pl.natL t) [13] _ HNL.out rfl (Nat.le_refl _) (by decide) HX1.out HX2.out).mono ?_
        rw [show (1 : Nat) = 0 + 1 from rfl, HT.out, HS.out]
        rintro e w1 ⟨rfl, rfl⟩
        go_wp2_with (first | (refine Mm.wp_storeF _ rfl 53 _ _ (by rfl) (by kernel_rfl) p 7 90 (Mm.cellsP bv wv rv ev st) (.iface Tt xx) HV.out.1 (by rfl) (by rfl) (by simp [Mm.cellsP]) rfl rfl ?_; intro w2 h2 hz2 hg2; clear hz2))
        go_ret3
        exact ⟨rfl, ⟨wv, rv, .iface Tt xx, rows, HV.out.store hg2 h2 rfl rfl (.inl ⟨rfl, _, _, rfl⟩), rfl⟩, Mm.gTrans (Mm.gBelow HB1.out) hg2⟩
      | succ k =>
        have hdl : t.dropLast.tail.length = k := by rw [List.length_tail, List.length_dropLast]; omega
        have HD : Hid (Mm.BytesAt (w.alloc (.cells #[.int .u8 13] 5)) g (o + 1) t.dropLast.tail) := by
          have := (HMt.out.keep (HB1.out.block g (HMt.out.lt (by omega)))).drop 1 |>.take k
          rwa [show (t.drop 1).take k = t.dropLast.tail by rw [List.dropLast_eq_take, ← List.drop_one, List.take_drop]; congr 2 <;> omega] at this
        have HCV := Pl.hid (Mm.conv_at _ g (o + 1) k (k + 1) _ hdl HD.out)
        have hB : (Pl.B t.dropLast.tail).size ≤ 140737488351232 := by rw [Pl.B_size]; omega
        have hin := Pl.rIv_in t.dropLast.tail
        have hok : Pl.numOk t lo hi = (decide (Pl.rIc t.dropLast.tail = 0) && decide (lo ≤ Pl.rIv t.dropLast.tail) && decide (Pl.rIv t.dropLast.tail ≤ hi)) := by
          unfold Pl.numOk
          rw [hcr, decide_eq_true (show 2 ≤ t.length by omega)]
          rfl
        rw [hok]
        have HI := Pl.hid (fun w' => int_walk (Pl.B t.dropLast.tail) w' hB)
        rw [Pl.L_B] at HI
        obtain ⟨v, hv⟩ : ∃ v, Pl.rIv t.dropLast.tail = v := ⟨_, rfl⟩
        have hcode : Pl.rIc t.dropLast.tail = 0 ∨ Pl.rIc t.dropLast.tail = 10 := by unfold Pl.rIc; split <;> simp
        obtain ⟨wv, rv, ev, rows, hp, rfl⟩ := HP.out
        have HV := Pl.hid (hp.below HB1.out)
        have hpl := hp.lt
        obtain ⟨hv1, hv2⟩ := hin
        rw [hv] at hv1 hv2
        rw [hv] at HI ⊢
        have HEw := Pl.hid (HE.out.on (HW.out.trans (HB1.out.mono HW.out.size)))
        have hkb : k ≤ 32 := by omega
        have HBd : Hid (Pl.B t.dropLast.tail = Pl.B t.dropLast.tail) := rfl
        clear hok hB hv hp hcr hdl htl ht32 htc hk HBd
        rw [HK.out]
        rcases hcode with hcode | hcode
        · rw [hcode] at HI ⊢
          clear hcode
          rcases Int.lt_or_le v lo with h1 | h1
          · rw [decide_eq_false (show ¬ lo ≤ v by omega)]
            simp only [Bool.and_false, Bool.false_and, Bool.false_eq_true, if_false]
            go_enter Tryd.func87, Tryd.ntmps87
            go_wp2_with fail
            refine (line_some _ g o c 32 32 rfl l t w hl hc h0 (by decide) HM.out HL.out).mono ?_
            rw [HK.out]
            rintro e w1 ⟨rfl, rfl⟩
            go_wp2_with fail
            refine (Tryd.bytes_CutSuffix_all _ _ (k + 1 + 1) (k + 1 + 1) 1 1 (Pl.natL t) [13] _ HNL.out rfl (Nat.le_refl _) (by omega) HX1.out HX2.out).mono ?_
            rw [HT.out, HS.out]
            rintro e w1 ⟨rfl, rfl⟩
            have hcv := HCV.out
            go_wp2_with fail
            clear hcv
            refine (HI.out _ HEw.out).mono ?_
            rintro e w2 ⟨rfl, hb2⟩
            have HB2 := Pl.hid (HB1.out.trans (hb2.mono HB1.out.size))
            have HV2 := Pl.hid (HV.out.below hb2)
            clear hb2
            go_wp2_with (first | (refine Mm.wp_storeF _ rfl 53 _ _ (by rfl) (by kernel_rfl) p 7 90 (Mm.cellsP bv wv rv ev st) (.iface T xv) HV2.out.1 (by rfl) (by rfl) (by simp [Mm.cellsP]) rfl rfl ?_; intro w3 h3 hz3 hg3; clear hz3))
            go_ret3
            exact ⟨rfl, ⟨wv, rv, .iface T xv, rows, HV2.out.store hg3 h3 rfl rfl (.inl ⟨rfl, _, _, rfl⟩), rfl⟩, Mm.gTrans (Mm.gBelow HB2.out) hg3⟩
          · rcases Int.lt_or_le hi v with h2 | h2
            · rw [decide_eq_false (show ¬ v ≤ hi by omega)]
              simp only [Bool.and_false, Bool.false_eq_true, if_false]
              go_enter Tryd.func87, Tryd.ntmps87
              go_wp2_with fail
              refine (line_some _ g o c 32 32 rfl l t w hl hc h0 (by decide) HM.out HL.out).mono ?_
              rw [HK.out]
              rintro e w1 ⟨rfl, rfl⟩
              go_wp2_with fail
              refine (Tryd.bytes_CutSuffix_all _ _ (k + 1 + 1) (k + 1 + 1) 1 1 (Pl.natL t) [13] _ HNL.out rfl (Nat.le_refl _) (by omega) HX1.out HX2.out).mono ?_
              rw [HT.out, HS.out]
              rintro e w1 ⟨rfl, rfl⟩
              have hcv := HCV.out
              go_wp2_with fail
              clear hcv
              refine (HI.out _ HEw.out).mono ?_
              rintro e w2 ⟨rfl, hb2⟩
              have HB2 := Pl.hid (HB1.out.trans (hb2.mono HB1.out.size))
              have HV2 := Pl.hid (HV.out.below hb2)
              clear hb2
              go_wp2_with (first | (refine Mm.wp_storeF _ rfl 53 _ _ (by rfl) (by kernel_rfl) p 7 90 (Mm.cellsP bv wv rv ev st) (.iface T xv) HV2.out.1 (by rfl) (by rfl) (by simp [Mm.cellsP]) rfl rfl ?_; intro w3 h3 hz3 hg3; clear hz3))
              go_ret3
              exact ⟨rfl, ⟨wv, rv, .iface T xv, rows, HV2.out.store hg3 h3 rfl rfl (.inl ⟨rfl, _, _, rfl⟩), rfl⟩, Mm.gTrans (Mm.gBelow HB2.out) hg3⟩
            · rw [decide_eq_true h1, decide_eq_true h2]
              simp only [decide_true, Bool.and_true, if_true]
              go_enter Tryd.func87, Tryd.ntmps87
              go_wp2_with fail
              refine (line_some _ g o c 32 32 rfl l t w hl hc h0 (by decide) HM.out HL.out).mono ?_
              rw [HK.out]
              rintro e w1 ⟨rfl, rfl⟩
              go_wp2_with fail
              refine (Tryd.bytes_CutSuffix_all _ _ (k + 1 + 1) (k + 1 + 1) 1 1 (Pl.natL t) [13] _ HNL.out rfl (Nat.le_refl _) (by omega) HX1.out HX2.out).mono ?_
              rw [HT.out, HS.out]
              rintro e w1 ⟨rfl, rfl⟩
              have hcv := HCV.out
              go_wp2_with fail
              clear hcv
              refine (HI.out _ HEw.out).mono ?_
              rintro e w2 ⟨rfl, hb2⟩
              have HB2 := Pl.hid (HB1.out.trans (hb2.mono HB1.out.size))
              have HV2 := Pl.hid (HV.out.below hb2)
              clear hb2
              go_wp2_with fail
              go_ret3
              refine ⟨rfl, ⟨wv, rv, ev, rows, ?_, rfl⟩, Mm.gBelow HB2.out⟩
              rw [← He.out]
              exact HV2.out
        · rw [hcode] at HI ⊢
          clear hcode
          simp only [show ¬ ((10 : Int) = 0) by decide, decide_false, Bool.false_and, Bool.false_eq_true, if_false]
          go_enter Tryd.func87, Tryd.ntmps87
          go_wp2_with fail
          refine (line_some _ g o c 32 32 rfl l t w hl hc h0 (by decide) HM.out HL.out).mono ?_
          rw [HK.out]
          rintro e w1 ⟨rfl, rfl⟩
          go_wp2_with fail
          refine (Tryd.bytes_CutSuffix_all _ _ (k + 1 + 1) (k + 1 + 1) 1 1 (Pl.natL t) [13] _ HNL.out rfl (Nat.le_refl _) (by omega) HX1.out HX2.out).mono ?_
          rw [HT.out, HS.out]
          rintro e w1 ⟨rfl, rfl⟩
          have hcv := HCV.out
          go_wp2_with fail
          clear hcv
          refine (HI.out _ HEw.out).mono ?_
          rintro e w2 ⟨rfl, hb2⟩
          have HB2 := Pl.hid (HB1.out.trans (hb2.mono HB1.out.size))
          have HV2 := Pl.hid (HV.out.below hb2)
          clear hb2
          go_wp2_with (first | (refine Mm.wp_storeF _ rfl 53 _ _ (by rfl) (by kernel_rfl) p 7 90 (Mm.cellsP bv wv rv ev st) (.iface T xv) HV2.out.1 (by rfl) (by rfl) (by simp [Mm.cellsP]) rfl rfl ?_; intro w3 h3 hz3 hg3; clear hz3))
          go_ret3
          exact ⟨rfl, ⟨wv, rv, .iface T xv, rows, HV2.out.store hg3 h3 rfl rfl (.inl ⟨rfl, _, _, rfl⟩), rfl⟩, Mm.gTrans (Mm.gBelow HB2.out) hg3⟩
end Go.Proofs.YtakldjdohgmeiaaDoor
