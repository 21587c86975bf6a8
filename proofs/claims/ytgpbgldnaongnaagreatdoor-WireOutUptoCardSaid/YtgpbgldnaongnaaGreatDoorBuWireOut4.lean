/- A parser's number: Go's number. Conditions stand in the law. A parser's count and length: Go's count, length. Conditions stand in each law. A parser's word: Go's word. Conditions stand in each law. A parser's word: Go's word. Conditions stand in the law. Conditions stand in each law. -/
import Derived.Test.YtgpbgldnaongnaaGreatDoorBuWireOut3
import Derived.Maps.AppendAt
namespace Go.Proofs.YtgpbgldnaongnaaGreatDoor
open Go.RowKit
set_option maxRecDepth 20000

namespace Pl
theorem hasSuffix_cr (t : List UInt8) : Lib.hasSuffix t [13] = crB t := by
  unfold Lib.hasSuffix crB
  rcases List.eq_nil_or_concat t with rfl | ⟨a, c, rfl⟩
  · rfl
  · rw [List.concat_eq_append, List.getLast?_append, Bool.eq_iff_iff]
    simp only [List.isSuffixOf_iff_suffix, decide_eq_true_eq]
    constructor
    · rintro ⟨b, hb⟩
      have := congrArg List.getLast? hb
      simpa using this.symm
    · intro h
      obtain rfl : c = 13 := by simpa using h
      exact List.suffix_append _ _
theorem crB_pos {t : List UInt8} (h : crB t = true) : 0 < t.length := by
  cases t with
  | nil => simp [crB] at h
  | cons _ _ => simp
theorem trim_yes {t : List UInt8} (h : crB t = true) (g o k : Nat) : Lib.trimSuffixV (some ⟨g, o, none⟩) (k + 1) (k + 1) (natL t) [13] = .slice (some ⟨g, o, none⟩) k (k + 1) := by
  show Lib.bytesTrimSuffix g o (k + 1) (k + 1) (natL t) [13] = _
  unfold Lib.bytesTrimSuffix
  rw [bytesOf_natL, show Lib.bytesOf [13] = [13] from rfl, hasSuffix_cr, if_pos h]
  rfl
theorem trim_no {t : List UInt8} (h : crB t = false) (g o k : Nat) : Lib.trimSuffixV (some ⟨g, o, none⟩) k k (natL t) [13] = .slice (some ⟨g, o, none⟩) k k := by
  show Lib.bytesTrimSuffix g o k k (natL t) [13] = _
  unfold Lib.bytesTrimSuffix
  rw [bytesOf_natL, show Lib.bytesOf [13] = [13] from rfl, hasSuffix_cr, h]
  rfl
def nuE : Option (Int × Nat) → Ending
  | some (n, k) => .returned (.tuple #[.int .i64 n, .int .i64 (k : Int), .bool true])
  | none => .returned (.tuple #[.int .i64 0, .int .i64 0, .bool false])
theorem numM_some {l t : List UInt8} {lo hi : Int} (h : lineM l 32 = some t) : numM l lo hi = if numOk t lo hi = true then (some (rIv t.dropLast.tail, t.length + 1), false) else (none, true) := by unfold numM; rw [h]
end Pl

namespace Mm
open Pl
theorem conv_at (w : World) (g o n c : Nat) (l : List UInt8) (hl : l.length = n) (h : BytesAt w g o l) :
    (convert 23 9 (.slice (some ⟨g, o, none⟩) n c)).run Tryz.prog w = .ok (.string (B l)) w := by
  subst hl
  have := run_convert_bytes_back (P := Tryz.prog) w 23 9 5 ⟨g, o, none⟩ c l Tryz.underlying23 Tryz.underlying5 Tryz.underlying9 (fun j hj => by
    have e : (⟨g, o, none⟩ : Addr).add j = ⟨g, o + j, none⟩ := by unfold Addr.add; split <;> simp_all
    rw [e, h j hj]
    unfold at_
    rw [List.getD_eq_getElem?_getD, List.getElem?_eq_getElem hj]
    rfl)
  exact this
theorem PQ.below {w w' : World} {p : Nat} {bv : Value} {st : Pst} {F : Nat → Prop} (h : PQ w p bv st F) (hb : Below w.heap.size w w') : PQ w' p bv st F := by
  obtain ⟨wv, rv, ev, rows, h, rfl⟩ := h
  exact ⟨wv, rv, ev, rows, h.below hb, rfl⟩
theorem gBelow {a b : World} {r : Option Nat} (h : Below a.heap.size a b) : a.grownBy b r := ⟨h.os, h.tape, h.output, h.size, fun i hi _ => h.block i hi⟩
theorem gTrans {a b c : World} {r : Option Nat} (h : a.grownBy b r) (k : b.grownBy c r) : a.grownBy c r :=
  ⟨k.os.trans h.os, k.tape.trans h.tape, k.output.trans h.output, Nat.le_trans h.size k.size, fun i hi hn => (k.block i (Nat.lt_of_lt_of_le hi h.size) hn).trans (h.block i hi hn)⟩
end Mm

set_option maxHeartbeats 4000000 in
theorem number_walk (p g o c : Nat) (lo hi : Int) (l : List UInt8) (bv : Value) (st : Pl.Pst) (F : Nat → Prop) (T : TypeId) (xv : Value) (W w : World) (hR : Mm.RErr W) (hE : Mm.Errs W) (hW : Below W.heap.size W w) (hl : l.length ≤ 140737488351232) (hc : l.length ≤ c) (h0 : 0 < l.length) (h : Mm.BytesAt w g o l)
    (hp : Mm.PQ w p bv st F) (he : st.err = false) :
    Calls Tryz.prog 49 #[.pointer (some ⟨p, 0, none⟩), .slice (some ⟨g, o, none⟩) l.length c, .int .i64 lo, .int .i64 hi, .iface T xv] w fun e w' => e = Pl.nuE (Pl.numM l lo hi).1 ∧ Mm.PQ w' p bv { st with err := (Pl.numM l lo hi).2 } F ∧ w.grownBy w' (some p) := by
  have HE := Pl.hid hE
  have HR := Pl.hid hR
  have HW := Pl.hid hW
  have HM := Pl.hid h
  have HP := Pl.hid hp
  have He := Pl.hid he
  clear hE hR hW h hp he
  cases hline : Pl.lineM l 32 with
  | none =>
    have hq : Pl.numM l lo hi = (none, decide (32 < l.length)) := by unfold Pl.numM; rw [hline]
    rw [hq]
    have HL := Pl.hid hline
    clear hline hq
    go_enter Tryz.func49, Tryz.ntmps49
    go_wp2_with fail
    refine (line_none p g o c 32 32 rfl l bv st F W w HR.out HW.out hl hc (by decide) HM.out HL.out HP.out He.out).mono ?_
    rintro e w1 ⟨rfl, hp1, hg1⟩
    have HP1 := Pl.hid hp1
    have HG1 := Pl.hid hg1
    clear hp1 hg1
    go_wp2_with fail
    go_ret3
    exact ⟨rfl, HP1.out, HG1.out⟩
  | some t =>
    rw [Pl.numM_some hline]
    have HL := Pl.hid hline
    obtain ⟨_, _, ht, htl, ht32⟩ := Pl.lineM_some hline
    have HMt : Hid (Mm.BytesAt w g o t) := by
      have := HM.out.take t.length
      rwa [← ht] at this
    have htc : t.length ≤ c := by omega
    clear hline ht
    have HB1 := Pl.hid ((Below.refl w.heap.size w).alloc (Nat.le_refl _) (.cells #[.int .u8 13] 5))
    have HX1 : Hid (Lib.BytesIn (w.alloc (.cells #[.int .u8 13] 5)) (some ⟨g, o, none⟩) t.length (Pl.natL t)) := Mm.BytesAt.byteIn (g := g) (o := o) fun hpos => ⟨rfl, HMt.out.keep (HB1.out.block g (HMt.out.lt hpos))⟩
    have HX2 : Hid (Lib.BytesIn (w.alloc (.cells #[.int .u8 13] 5)) (some ⟨w.heap.size, 0, none⟩) 1 [13]) := fun _ => ⟨w.heap.size, 0, rfl, fun i hi => by
      rw [World.cell?_alloc_mark]
      match i, hi with
      | 0, _ => rfl⟩
    cases hcr : Pl.crB t with
    | false =>
      have hno : Pl.numOk t lo hi = false := by unfold Pl.numOk; rw [hcr]; rfl
      rw [hno, if_neg (by simp)]
      clear hno
      obtain ⟨wv, rv, ev, rows, hv, rfl⟩ := HP.out
      obtain ⟨Tt, xx, hx⟩ := (HR.out.on (HW.out.trans (HB1.out.mono HW.out.size))).here 0 (by simp)
      have HV := Pl.hid (hv.below HB1.out)
      have hpl := hv.lt
      have HT := Pl.hid (Pl.trim_no hcr g o t.length)
      have HS : Hid (Lib.hasSuffix (Lib.bytesOf (Pl.natL t)) (Lib.bytesOf [13]) = false) := by
        show _ = _
        rw [Pl.bytesOf_natL]
        exact (Pl.hasSuffix_cr t).trans hcr
      clear hcr hv
      have ht47 : t.length ≤ 9223372036854775807 := by omega
      clear htl ht32
      go_enter Tryz.func49, Tryz.ntmps49
      go_wp2_with fail
      refine (line_some _ g o c 32 32 rfl l t w hl hc h0 (by decide) HM.out HL.out).mono ?_
      rintro e w1 ⟨rfl, rfl⟩
      go_wp2_with fail
      refine (Tryz.bytes_CutSuffix_all _ _ t.length t.length 1 1 (Pl.natL t) [13] _ (Pl.natL_length t) rfl (Nat.le_refl _) ht47 HX1.out HX2.out).mono ?_
      rw [HT.out, HS.out]
      rintro e w1 ⟨rfl, rfl⟩
      go_wp2_with (first | (refine Mm.wp_storeF _ rfl 60 _ _ (by rfl) (by kernel_rfl) p 7 64 (Mm.cellsP bv wv rv ev st) (.iface Tt xx) HV.out.1 (by rfl) (by rfl) (by simp [Mm.cellsP]) rfl rfl ?_; intro w2 h2 hz2 hg2; clear hz2))
      go_ret3
      exact ⟨rfl, ⟨wv, rv, .iface Tt xx, rows, HV.out.store hg2 h2 rfl rfl (.inl ⟨rfl, _, _, rfl⟩), rfl⟩, Mm.gTrans (Mm.gBelow HB1.out) hg2⟩
    | true =>
      obtain ⟨k, hk⟩ : ∃ k, t.length = k + 1 := ⟨t.length - 1, by have := Pl.crB_pos hcr; omega⟩
      have HT := Pl.hid (Pl.trim_yes hcr g o k)
      have HS : Hid (Lib.hasSuffix (Lib.bytesOf (Pl.natL t)) (Lib.bytesOf [13]) = true) := by
        show _ = _
        rw [Pl.bytesOf_natL]
        exact (Pl.hasSuffix_cr t).trans hcr
      have HK := Pl.hid hk
      rw [hk] at HX1
      have HNL := Pl.hid ((Pl.natL_length t).trans hk)
      cases k with
      | zero =>
        have hno : Pl.numOk t lo hi = false := by unfold Pl.numOk; rw [decide_eq_false (show ¬ 2 ≤ t.length by omega)]; simp
        rw [hno, if_neg (by simp)]
        clear hno hk hcr
        obtain ⟨wv, rv, ev, rows, hv, rfl⟩ := HP.out
        obtain ⟨Tt, xx, hx⟩ := (HR.out.on (HW.out.trans (HB1.out.mono HW.out.size))).here 0 (by simp)
        have HV := Pl.hid (hv.below HB1.out)
        have hpl := hv.lt
        clear hv
        clear htl ht32
        go_enter Tryz.func49, Tryz.ntmps49
        go_wp2_with fail
        refine (line_some _ g o c 32 32 rfl l t w hl hc h0 (by decide) HM.out HL.out).mono ?_
        rw [HK.out]
        rintro e w1 ⟨rfl, rfl⟩
        go_wp2_with fail
        refine (Tryz.bytes_CutSuffix_all _ _ 1 1 1 1 (Pl.natL t) [13] _ HNL.out rfl (Nat.le_refl _) (by decide) HX1.out HX2.out).mono ?_
        rw [show (1 : Nat) = 0 + 1 from rfl, HT.out, HS.out]
        rintro e w1 ⟨rfl, rfl⟩
        go_wp2_with (first | (refine Mm.wp_storeF _ rfl 60 _ _ (by rfl) (by kernel_rfl) p 7 64 (Mm.cellsP bv wv rv ev st) (.iface Tt xx) HV.out.1 (by rfl) (by rfl) (by simp [Mm.cellsP]) rfl rfl ?_; intro w2 h2 hz2 hg2; clear hz2))
        go_ret3
        exact ⟨rfl, ⟨wv, rv, .iface Tt xx, rows, HV.out.store hg2 h2 rfl rfl (.inl ⟨rfl, _, _, rfl⟩), rfl⟩, Mm.gTrans (Mm.gBelow HB1.out) hg2⟩
      | succ k =>
        have hdl : t.dropLast.tail.length = k := by rw [List.length_tail, List.length_dropLast]; omega
        have HD : Hid (Mm.BytesAt (w.alloc (.cells #[.int .u8 13] 5)) g (o + 1) t.dropLast.tail) := by
          have := (HMt.out.keep (HB1.out.block g (HMt.out.lt (by omega)))).drop 1 |>.take k
          rwa [show (t.drop 1).take k = t.dropLast.tail by rw [List.dropLast_eq_take, ← List.drop_one, List.take_drop]; congr 2 <;> omega] at this
        have HCV := Pl.hid (Mm.conv_at _ g (o + 1) k (k + 1) _ hdl HD.out)
        have hB : (Pl.B t.dropLast.tail).size ≤ 140737488351232 := by rw [Pl.B_size]; omega
        have hin := Pl.rIv_in t.dropLast.tail
        have hok : Pl.numOk t lo hi = (decide (Pl.rIc t.dropLast.tail = 0) && decide (lo ≤ Pl.rIv t.dropLast.tail) && decide (Pl.rIv t.dropLast.tail ≤ hi)) := by
          unfold Pl.numOk
          rw [hcr, decide_eq_true (show 2 ≤ t.length by omega)]
          rfl
        rw [hok]
        have HI := Pl.hid (fun w' => int_walk (Pl.B t.dropLast.tail) w' hB)
        rw [Pl.L_B] at HI
        obtain ⟨v, hv⟩ : ∃ v, Pl.rIv t.dropLast.tail = v := ⟨_, rfl⟩
        have hcode : Pl.rIc t.dropLast.tail = 0 ∨ Pl.rIc t.dropLast.tail = 10 := by unfold Pl.rIc; split <;> simp
        obtain ⟨wv, rv, ev, rows, hp, rfl⟩ := HP.out
        have HV := Pl.hid (hp.below HB1.out)
        have hpl := hp.lt
        obtain ⟨hv1, hv2⟩ := hin
        rw [hv] at hv1 hv2
        rw [hv] at HI ⊢
        have HEw := Pl.hid (HE.out.on (HW.out.trans (HB1.out.mono HW.out.size)))
        have hkb : k ≤ 32 := by omega
        have HBd : Hid (Pl.B t.dropLast.tail = Pl.B t.dropLast.tail) := rfl
        clear hok hB hv hp hcr hdl htl ht32 htc hk HBd
        rw [HK.out]
        rcases hcode with hcode | hcode
        · rw [hcode] at HI ⊢
          clear hcode
          rcases Int.lt_or_le v lo with h1 | h1
          · rw [decide_eq_false (show ¬ lo ≤ v by omega)]
            simp only [Bool.and_false, Bool.false_and, Bool.false_eq_true, if_false]
            go_enter Tryz.func49, Tryz.ntmps49
            go_wp2_with fail
            refine (line_some _ g o c 32 32 rfl l t w hl hc h0 (by decide) HM.out HL.out).mono ?_
            rw [HK.out]
            rintro e w1 ⟨rfl, rfl⟩
            go_wp2_with fail
            refine (Tryz.bytes_CutSuffix_all _ _ (k + 1 + 1) (k + 1 + 1) 1 1 (Pl.natL t) [13] _ HNL.out rfl (Nat.le_refl _) (by omega) HX1.out HX2.out).mono ?_
            rw [HT.out, HS.out]
            rintro e w1 ⟨rfl, rfl⟩
            have hcv := HCV.out
            go_wp2_with fail
            clear hcv
            refine (HI.out _ HEw.out).mono ?_
            rintro e w2 ⟨rfl, hb2⟩
            have HB2 := Pl.hid (HB1.out.trans (hb2.mono HB1.out.size))
            have HV2 := Pl.hid (HV.out.below hb2)
            clear hb2
            go_wp2_with (first | (refine Mm.wp_storeF _ rfl 60 _ _ (by rfl) (by kernel_rfl) p 7 64 (Mm.cellsP bv wv rv ev st) (.iface T xv) HV2.out.1 (by rfl) (by rfl) (by simp [Mm.cellsP]) rfl rfl ?_; intro w3 h3 hz3 hg3; clear hz3))
            go_ret3
            exact ⟨rfl, ⟨wv, rv, .iface T xv, rows, HV2.out.store hg3 h3 rfl rfl (.inl ⟨rfl, _, _, rfl⟩), rfl⟩, Mm.gTrans (Mm.gBelow HB2.out) hg3⟩
          · rcases Int.lt_or_le hi v with h2 | h2
            · rw [decide_eq_false (show ¬ v ≤ hi by omega)]
              simp only [Bool.and_false, Bool.false_eq_true, if_false]
              go_enter Tryz.func49, Tryz.ntmps49
              go_wp2_with fail
              refine (line_some _ g o c 32 32 rfl l t w hl hc h0 (by decide) HM.out HL.out).mono ?_
              rw [HK.out]
              rintro e w1 ⟨rfl, rfl⟩
              go_wp2_with fail
              refine (Tryz.bytes_CutSuffix_all _ _ (k + 1 + 1) (k + 1 + 1) 1 1 (Pl.natL t) [13] _ HNL.out rfl (Nat.le_refl _) (by omega) HX1.out HX2.out).mono ?_
              rw [HT.out, HS.out]
              rintro e w1 ⟨rfl, rfl⟩
              have hcv := HCV.out
              go_wp2_with fail
              clear hcv
              refine (HI.out _ HEw.out).mono ?_
              rintro e w2 ⟨rfl, hb2⟩
              have HB2 := Pl.hid (HB1.out.trans (hb2.mono HB1.out.size))
              have HV2 := Pl.hid (HV.out.below hb2)
              clear hb2
              go_wp2_with (first | (refine Mm.wp_storeF _ rfl 60 _ _ (by rfl) (by kernel_rfl) p 7 64 (Mm.cellsP bv wv rv ev st) (.iface T xv) HV2.out.1 (by rfl) (by rfl) (by simp [Mm.cellsP]) rfl rfl ?_; intro w3 h3 hz3 hg3; clear hz3))
              go_ret3
              exact ⟨rfl, ⟨wv, rv, .iface T xv, rows, HV2.out.store hg3 h3 rfl rfl (.inl ⟨rfl, _, _, rfl⟩), rfl⟩, Mm.gTrans (Mm.gBelow HB2.out) hg3⟩
            · rw [decide_eq_true h1, decide_eq_true h2]
              simp only [decide_true, Bool.and_true, if_true]
              go_enter Tryz.func49, Tryz.ntmps49
              go_wp2_with fail
              refine (line_some _ g o c 32 32 rfl l t w hl hc h0 (by decide) HM.out HL.out).mono ?_
              rw [HK.out]
              rintro e w1 ⟨rfl, rfl⟩
              go_wp2_with fail
              refine (Tryz.bytes_CutSuffix_all _ _ (k + 1 + 1) (k + 1 + 1) 1 1 (Pl.natL t) [13] _ HNL.out rfl (Nat.le_refl _) (by omega) HX1.out HX2.out).mono ?_
              rw [HT.out, HS.out]
              rintro e w1 ⟨rfl, rfl⟩
              have hcv := HCV.out
              go_wp2_with fail
              clear hcv
              refine (HI.out _ HEw.out).mono ?_
              rintro e w2 ⟨rfl, hb2⟩
              have HB2 := Pl.hid (HB1.out.trans (hb2.mono HB1.out.size))
              have HV2 := Pl.hid (HV.out.below hb2)
              clear hb2
              go_wp2_with fail
              go_ret3
              refine ⟨rfl, ⟨wv, rv, ev, rows, ?_, rfl⟩, Mm.gBelow HB2.out⟩
              rw [← He.out]
              exact HV2.out
        · rw [hcode] at HI ⊢
          clear hcode
          simp only [show ¬ ((10 : Int) = 0) by decide, decide_false, Bool.false_and, Bool.false_eq_true, if_false]
          go_enter Tryz.func49, Tryz.ntmps49
          go_wp2_with fail
          refine (line_some _ g o c 32 32 rfl l t w hl hc h0 (by decide) HM.out HL.out).mono ?_
          rw [HK.out]
          rintro e w1 ⟨rfl, rfl⟩
          go_wp2_with fail
          refine (Tryz.bytes_CutSuffix_all _ _ (k + 1 + 1) (k + 1 + 1) 1 1 (Pl.natL t) [13] _ HNL.out rfl (Nat.le_refl _) (by omega) HX1.out HX2.out).mono ?_
          rw [HT.out, HS.out]
          rintro e w1 ⟨rfl, rfl⟩
          have hcv := HCV.out
          go_wp2_with fail
          clear hcv
          refine (HI.out _ HEw.out).mono ?_
          rintro e w2 ⟨rfl, hb2⟩
          have HB2 := Pl.hid (HB1.out.trans (hb2.mono HB1.out.size))
          have HV2 := Pl.hid (HV.out.below hb2)
          clear hb2
          go_wp2_with (first | (refine Mm.wp_storeF _ rfl 60 _ _ (by rfl) (by kernel_rfl) p 7 64 (Mm.cellsP bv wv rv ev st) (.iface T xv) HV2.out.1 (by rfl) (by rfl) (by simp [Mm.cellsP]) rfl rfl ?_; intro w3 h3 hz3 hg3; clear hz3))
          go_ret3
          exact ⟨rfl, ⟨wv, rv, .iface T xv, rows, HV2.out.store hg3 h3 rfl rfl (.inl ⟨rfl, _, _, rfl⟩), rfl⟩, Mm.gTrans (Mm.gBelow HB2.out) hg3⟩
end Go.Proofs.YtgpbgldnaongnaaGreatDoor

namespace Go.Proofs.YtgpbgldnaongnaaGreatDoor
open Go.RowKit
set_option maxRecDepth 20000

namespace Pl
theorem numM_ok {l : List UInt8} {lo hi : Int} {q : Int × Nat} {e : Bool} (h : numM l lo hi = (some q, e)) : e = false := by
  unfold numM at h
  split at h
  · cases h
  · split at h
    · injection h with _ h; exact h.symm
    · cases h
theorem numM_in {l : List UInt8} {lo hi n : Int} {k : Nat} {e : Bool} (h : numM l lo hi = (some (n, k), e)) : lo ≤ n ∧ n ≤ hi ∧ k ≤ 33 ∧ 0 < k ∧ k ≤ l.length := by
  unfold numM at h
  cases ht : lineM l 32 with
  | none => rw [ht] at h; cases h
  | some t =>
    rw [ht] at h
    simp only at h
    split at h
    · rename_i hk
      injection h with h _
      injection h with h
      injection h with h1 h2
      have := lineM_some ht
      unfold numOk at hk
      simp only [Bool.and_eq_true, decide_eq_true_eq] at hk
      subst h1
      omega
    · cases h
theorem Pst.same {st : Pst} (h : st.err = false) : { st with err := false } = st := by cases st; simp at h; simp [h]
end Pl

namespace Mm
open Pl
theorem cellOf {w : World} {p i : Nat} {cs : Array Value} {T : TypeId} {z : Nat × Nat} {v : Value} (h : w.heap[p]? = some (.cells cs T z)) (hi : cs[i]? = some v) : w.cell? ⟨p, i, none⟩ = some v := by
  unfold World.cell?
  rw [h]
  exact hi
theorem belowG {W w w' : World} {p : Nat} (h : Below W.heap.size W w) (hg : w.grownBy w' (some p)) (hp : W.heap.size ≤ p) : Below W.heap.size W w' :=
  h.grown hg h.size (fun k hk => by injection hk with hk; omega)
/-- stores to the parser's own block, the words given up -/
theorem PV.clear {w w' : World} {p : Nat} {bv wv rv ev bv' ev' : Value} {st st' : Pst} {rows : List Value} (h : PV w p bv st wv rv ev rows) (hg : w.grownBy w' (some p)) (hp : w'.heap[p]? = some (.cells (cellsP bv' (.slice none 0 0) rv ev' st') 64 (0, 0)))
    (h1 : st'.words = []) (h2 : st'.ready = st.ready) (h3 : ErrV st'.err ev') : PV w' p bv' st' (.slice none 0 0) rv ev' rows := by
  have hne : ∀ g, p + 1 ≤ g → ¬ some g = some p := fun g hg e => by injection e with e; omega
  refine ⟨hp, ?_, ownsRow_keep h.2.2.1 (fun g hg' => hg.block g (h.2.2.1.lt g hg').2 (hne g (h.2.2.1.lt g hg').1)), ?_, fun g hg => (by cases hg), fun v hv => ⟨fun g _ hg => (by cases hg), (h.2.2.2.2.2.1 v hv).2⟩, h3⟩
  · rw [h1]
    exact ownS_nil _ _
  · rw [h2]
    exact h.2.2.2.1.keep (fun v hv g hg' => by
      obtain ⟨l, ho⟩ := h.2.2.2.1.row hv
      exact hg.block g (ho.lt g hg').2 (hne g (ho.lt g hg').1))
theorem chgOwn {w w' : World} {p : Nat} {wv rv wv' : Value} {rows : List Value} (h : w.grownBy w' (some p)) (hw : ∀ g, wv'.ownBlock = some g → foot p wv rv rows g) : Chg w (foot p wv rv rows) w' (foot p wv' rv rows) :=
  Chg.grown h (fun g e => by injection e with e; exact .inl e.symm) (fun g hg => by
    rcases hg with h1 | h1 | h1
    · exact .inl (.inl h1)
    · exact .inl (hw g h1)
    · exact .inl (.inr (.inr h1)))
end Mm

set_option maxHeartbeats 4000000 in
theorem count_walk (p g o c : Nat) (l : List UInt8) (bv : Value) (st : Pl.Pst) (F : Nat → Prop) (W w : World) (hR : Mm.RErr W) (hE : Mm.Errs W) (hW : Below W.heap.size W w) (hl : l.length ≤ 140737488351232) (hc : l.length ≤ c) (h0 : 0 < l.length) (h : Mm.BytesAt w g o l)
    (hp : Mm.PQ w p bv st F) (he : st.err = false) :
    Calls Tryz.prog 39 #[.pointer (some ⟨p, 0, none⟩), .slice (some ⟨g, o, none⟩) l.length c] w fun e w' => e = .returned (.int .i64 ((Pl.countM st l).1 : Int)) ∧ ∃ F', Mm.PQ w' p bv (Pl.countM st l).2 F' ∧ Mm.Chg w F w' F' := by
  obtain ⟨T, xv, hx⟩ := (hR.on hW).here 4 (by simp)
  have HC := Pl.hid (number_walk p g o c (-1) 1024 l bv st F T xv W w hR hE hW hl hc h0 h hp he)
  obtain ⟨wv, rv, ev, rows, hv, hF⟩ := hp
  have He := Pl.hid he
  clear hR hE hW h hv he hl hc h0
  unfold Pl.countM
  cases hq : Pl.numM l (-1) 1024 with
  | mk q e =>
  rw [hq] at HC
  cases q with
  | none =>
    simp only
    go_enter Tryz.func39, Tryz.ntmps39
    go_wp2_with fail
    refine HC.out.mono ?_
    rintro e w1 ⟨rfl, hp1, hg1⟩
    have HP1 := Pl.hid hp1
    have HG1 := Pl.hid hg1
    clear hp1 hg1 hx
    simp only [Pl.nuE]
    go_wp2_with fail
    go_ret
    exact ⟨rfl, F, HP1.out, Mm.Chg.grown HG1.out (fun g e => by rw [hF]; injection e with e; exact .inl e.symm) (fun _ h => .inl h)⟩
  | some nk =>
    obtain ⟨n, k⟩ := nk
    obtain rfl : e = false := Pl.numM_ok hq
    rw [Pl.Pst.same He.out] at HC
    clear hq
    simp only
    rcases Int.lt_or_le 0 n with hn | hn
    · rw [if_pos hn]
      obtain ⟨m, rfl⟩ := Int.eq_ofNat_of_zero_le (Int.le_of_lt hn)
      go_enter Tryz.func39, Tryz.ntmps39
      go_wp2_with fail
      refine HC.out.mono ?_
      rintro e w1 ⟨rfl, hp1, hg1⟩
      obtain ⟨wv1, rv1, ev1, rows1, hv1, hF1⟩ := hp1
      have HV1 := Pl.hid hv1
      have HG1 := Pl.hid hg1
      have hpl := hv1.lt
      clear hv1 hg1 hx
      simp only [Pl.nuE]
      go_wp2_with (first
        | (refine Mm.wp_storeF _ rfl 3 _ _ (by rfl) (by kernel_rfl) p 3 64 (Mm.cellsP bv wv1 rv1 ev1 _) _ HV1.out.1 (by rfl) (by rfl) (by simp [Mm.cellsP]) rfl rfl ?_; intro w3 h3 hz3 hg3; have H3 := Pl.hid h3; have HG3 := Pl.hid hg3; clear h3 hz3 hg3)
        | (refine Mm.wp_storeF _ rfl 3 _ _ (by rfl) (by kernel_rfl) p 4 64 _ _ H3.out (by rfl) (by rfl) (by simp [Mm.cellsP]) rfl rfl ?_; intro w4 h4 hz4 hg4; have H4 := Pl.hid h4; have HG4 := Pl.hid hg4; clear h4 hz4 hg4)
        | (refine Mm.wp_storeF _ rfl 39 _ _ (by rfl) (by kernel_rfl) p 2 64 _ _ H4.out (by rfl) (by rfl) (by simp [Mm.cellsP]) rfl rfl ?_; intro w5 h5 hz5 hg5; have H5 := Pl.hid h5; have HG5 := Pl.hid hg5; clear h5 hz5 hg5)
        | (refine Mm.wp_storeF _ rfl 3 _ _ (by rfl) (by kernel_rfl) p 1 64 _ _ H5.out (by rfl) (by rfl) (by simp [Mm.cellsP]) rfl rfl ?_; intro w6 h6 hz6 hg6; have H6 := Pl.hid h6; have HG6 := Pl.hid hg6; clear h6 hz6 hg6))
      go_ret
      have hgg := Mm.gTrans HG3.out (Mm.gTrans HG4.out (Mm.gTrans HG5.out HG6.out))
      refine ⟨rfl, Mm.foot p (.slice none 0 0) rv1 rows1, ⟨_, _, ev1, rows1, HV1.out.clear hgg H6.out rfl rfl ?_, rfl⟩, ?_⟩
      · exact HV1.out.2.2.2.2.2.2
      · refine Mm.Chg.trans (Mm.Chg.grown HG1.out (F' := F) (fun g e => by rw [hF]; injection e with e; exact .inl e.symm) (fun _ h => .inl h)) ?_
        rw [hF1]
        exact Mm.chgOwn hgg (fun g hg => by cases hg)
    · rw [if_neg (by omega)]
      go_enter Tryz.func39, Tryz.ntmps39
      go_wp2_with fail
      refine HC.out.mono ?_
      rintro e w1 ⟨rfl, hp1, hg1⟩
      have HP1 := Pl.hid hp1
      have HG1 := Pl.hid hg1
      clear hp1 hg1 hx
      simp only [Pl.nuE]
      go_wp2_with fail
      go_ret
      exact ⟨rfl, F, HP1.out, Mm.Chg.grown HG1.out (fun g e => by rw [hF]; injection e with e; exact .inl e.symm) (fun _ h => .inl h)⟩

set_option maxHeartbeats 4000000 in
theorem length_walk (p g o c : Nat) (l : List UInt8) (bv : Value) (st : Pl.Pst) (F : Nat → Prop) (W w : World) (hpW : W.heap.size ≤ p) (hR : Mm.RErr W) (hE : Mm.Errs W) (hW : Below W.heap.size W w) (hl : l.length ≤ 140737488351232) (hc : l.length ≤ c) (h0 : 0 < l.length) (h : Mm.BytesAt w g o l)
    (hp : Mm.PQ w p bv st F) (he : st.err = false) (hs : st.size ≤ 4194304) (hu : st.used ≤ 4503599627370496) :
    Calls Tryz.prog 38 #[.pointer (some ⟨p, 0, none⟩), .slice (some ⟨g, o, none⟩) l.length c] w fun e w' => e = .returned (.int .i64 ((Pl.lengthM st l).1 : Int)) ∧ ∃ F', Mm.PQ w' p bv (Pl.lengthM st l).2 F' ∧ Mm.Chg w F w' F' := by
  obtain ⟨T3, x3, hx3⟩ := (hR.on hW).here 1 (by simp)
  obtain ⟨T, xv, hx⟩ := (hR.on hW).here 2 (by simp)
  have HC := Pl.hid (number_walk p g o c 0 1048576 l bv st F T xv W w hR hE hW hl hc h0 h hp he)
  have HR := Pl.hid hR
  have HW := Pl.hid hW
  have HPW := Pl.hid hpW
  have b0 := h 0 h0
  rw [Nat.add_zero] at b0
  obtain ⟨wv, rv, ev, rows, hv, hF⟩ := hp
  have He := Pl.hid he
  have HV := Pl.hid hv
  have hpl := hv.lt
  clear hR hE hW h hv he hl hc hpW
  unfold Pl.lengthM
  rcases Decidable.em (l.head? = some 36) with h36 | h36
  · rw [if_neg (by simpa using h36)]
    have hb : (Pl.at_ l 0 == 36) = true := by
      cases l with
      | nil => exact absurd h0 (by simp)
      | cons c0 l =>
        injection h36 with h36
        subst h36
        rfl
    generalize Pl.at_ l 0 = a0 at b0 hb
    clear h36
    cases hq : Pl.numM l 0 1048576 with
    | mk q e =>
    rw [hq] at HC
    cases q with
    | none =>
      simp only
      go_enter Tryz.func38, Tryz.ntmps38
      go_wp2_with fail
      refine HC.out.mono ?_
      rintro e w1 ⟨rfl, hp1, hg1⟩
      have HP1 := Pl.hid hp1
      have HG1 := Pl.hid hg1
      clear hp1 hg1 hx hx3 b0 hb
      simp only [Pl.nuE]
      go_wp2_with fail
      go_ret
      exact ⟨rfl, F, HP1.out, Mm.Chg.grown HG1.out (fun g e => by rw [hF]; injection e with e; exact .inl e.symm) (fun _ h => .inl h)⟩
    | some nk =>
      obtain ⟨n, k⟩ := nk
      obtain rfl : e = false := Pl.numM_ok hq
      obtain ⟨hn0, hn1, hk, _, _⟩ := Pl.numM_in hq
      rw [Pl.Pst.same He.out] at HC
      clear hq
      simp only
      obtain ⟨m, rfl⟩ := Int.eq_ofNat_of_zero_le hn0
      have htn : ((m : Int)).toNat = m := rfl
      rw [htn]
      clear htn
      rcases Nat.lt_or_ge 4194304 (st.size + m) with hbig | hbig
      · rw [if_pos hbig]
        go_enter Tryz.func38, Tryz.ntmps38
        go_wp2_with fail
        refine HC.out.mono ?_
        rintro e w1 ⟨rfl, ⟨wv1, rv1, ev1, rows1, hv1, hF1⟩, hg1⟩
        have HV1 := Pl.hid hv1
        have HG1 := Pl.hid hg1
        have hpl := hv1.lt
        have hc4 := hv1.cell 4 (.int .i64 (st.size : Int)) rfl
        have HW1 := Pl.hid (Mm.belowG HW.out hg1 HPW.out)
        clear hv1 hg1 hx b0 hb hx3
        simp only [Pl.nuE]
        go_wp2_with (first
          | (refine Mm.wp_storeF _ rfl 3 _ _ (by rfl) (by kernel_rfl) p 4 64 (Mm.cellsP bv wv1 rv1 ev1 st) _ HV1.out.1 (by rfl) (by rfl) (by simp [Mm.cellsP]) rfl rfl ?_; intro w3 h3 hz3 hg3; have H3 := Pl.hid h3; have HG3 := Pl.hid hg3; clear h3 hz3 hg3; clear hc4; have hc4 := Mm.cellOf (i := 4) (v := .int .i64 ((st.size : Int) + (m : Int))) H3.out rfl; obtain ⟨T2, x2, hx2⟩ := (HR.out.on (Mm.belowG HW1.out HG3.out HPW.out)).here 3 (by simp))
          | (refine Mm.wp_storeF _ rfl 60 _ _ (by rfl) (by kernel_rfl) p 7 64 _ _ H3.out (by rfl) (by rfl) (by simp [Mm.cellsP]) rfl rfl ?_; intro w4 h4 hz4 hg4; have H4 := Pl.hid h4; have HG4 := Pl.hid hg4; clear h4 hz4 hg4))
        go_ret
        have hgg := Mm.gTrans HG3.out HG4.out
        have hcf : Mm.Chg w F w1 F := Mm.Chg.grown HG1.out (fun g e => by rw [hF]; injection e with e; exact .inl e.symm) (fun _ h => .inl h)
        refine ⟨rfl, F, ⟨wv1, rv1, .iface T2 x2, rows1, HV1.out.store hgg ?_ rfl rfl (.inl ⟨rfl, _, _, rfl⟩), hF1⟩, hcf.trans (Mm.Chg.grown hgg (fun g e => by rw [hF]; injection e with e; exact .inl e.symm) (fun _ h => .inl h))⟩
        exact H4.out
      · rw [if_neg (by omega)]
        go_enter Tryz.func38, Tryz.ntmps38
        go_wp2_with fail
        refine HC.out.mono ?_
        rintro e w1 ⟨rfl, ⟨wv1, rv1, ev1, rows1, hv1, hF1⟩, hg1⟩
        have HV1 := Pl.hid hv1
        have HG1 := Pl.hid hg1
        have hpl := hv1.lt
        have hc4 := hv1.cell 4 (.int .i64 (st.size : Int)) rfl
        clear hv1 hg1 hx b0 hb hx3
        simp only [Pl.nuE]
        go_wp2_with (first
          | (refine Mm.wp_storeF _ rfl 3 _ _ (by rfl) (by kernel_rfl) p 4 64 (Mm.cellsP bv wv1 rv1 ev1 st) _ HV1.out.1 (by rfl) (by rfl) (by simp [Mm.cellsP]) rfl rfl ?_; intro w3 h3 hz3 hg3; have H3 := Pl.hid h3; have HG3 := Pl.hid hg3; clear h3 hz3 hg3; clear hc4; have hc4 := Mm.cellOf (i := 4) (v := .int .i64 ((st.size : Int) + (m : Int))) H3.out rfl)
          | (refine Mm.wp_storeF _ rfl 3 _ _ (by rfl) (by kernel_rfl) p 5 64 _ _ H3.out (by rfl) (by rfl) (by simp [Mm.cellsP]) rfl rfl ?_; intro w4 h4 hz4 hg4; have H4 := Pl.hid h4; have HG4 := Pl.hid hg4; clear h4 hz4 hg4; clear hc4; have hc1 := Mm.cellOf (i := 1) (v := .int .i64 (st.used : Int)) H4.out rfl)
          | (refine Mm.wp_storeF _ rfl 3 _ _ (by rfl) (by kernel_rfl) p 1 64 _ _ H4.out (by rfl) (by rfl) (by simp [Mm.cellsP]) rfl rfl ?_; intro w5 h5 hz5 hg5; have H5 := Pl.hid h5; have HG5 := Pl.hid hg5; clear h5 hz5 hg5))
        go_ret
        have hgg := Mm.gTrans HG3.out (Mm.gTrans HG4.out HG5.out)
        have hcf : Mm.Chg w F w1 F := Mm.Chg.grown HG1.out (fun g e => by rw [hF]; injection e with e; exact .inl e.symm) (fun _ h => .inl h)
        refine ⟨rfl, F, ⟨wv1, rv1, ev1, rows1, HV1.out.store hgg ?_ rfl rfl HV1.out.2.2.2.2.2.2, hF1⟩, hcf.trans (Mm.Chg.grown hgg (fun g e => by rw [hF]; injection e with e; exact .inl e.symm) (fun _ h => .inl h))⟩
        exact H5.out
  · rw [if_pos h36]
    have hb : (Pl.at_ l 0 == 36) = false := by
      refine beq_eq_false_iff_ne.2 fun e => h36 ?_
      cases l with
      | nil => exact absurd h0 (by simp)
      | cons c0 l => exact congrArg some (UInt8.toNat_inj.1 (by have : ((c0.toNat : Nat) : Int) = 36 := e; show c0.toNat = 36; omega))
    generalize Pl.at_ l 0 = a0 at b0 hb
    clear h36 hx
    go_enter Tryz.func38, Tryz.ntmps38
    go_wp2_with (first | (refine Mm.wp_storeF _ rfl 60 _ _ (by rfl) (by kernel_rfl) p 7 64 (Mm.cellsP bv wv rv ev st) (.iface T3 x3) HV.out.1 (by rfl) (by rfl) (by simp [Mm.cellsP]) rfl rfl ?_; intro w3 h3 hz3 hg3; clear hz3))
    go_ret
    refine ⟨rfl, F, ⟨wv, rv, .iface T3 x3, rows, HV.out.store hg3 h3 rfl rfl (.inl ⟨rfl, _, _, rfl⟩), hF⟩, Mm.Chg.grown hg3 (fun g e => by rw [hF]; injection e with e; exact .inl e.symm) (fun _ h => .inl h)⟩
end Go.Proofs.YtgpbgldnaongnaaGreatDoor

namespace Go.Proofs.YtgpbgldnaongnaaGreatDoor
open Go.RowKit
set_option maxRecDepth 20000

theorem Tryz.info_strs : (Tryz.prog.info? 39).map (fun i => (i.zero, i.size, i.bytes)) = some (some (.slice none 0 0), 1, 24) := by kernel_rfl
namespace Pl
theorem at_is {l : List UInt8} {n k : Nat} (h : n < l.length) (hk : k < 256) : l[n]? = some (UInt8.ofNat k) ↔ (at_ l n == (k : Int)) = true := by
  have e : at_ l n = ((l[n]'h).toNat : Int) := by
    unfold at_
    rw [List.getD_eq_getElem?_getD, List.getElem?_eq_getElem h]
    rfl
  rw [List.getElem?_eq_getElem h, e, beq_iff_eq]
  constructor
  · intro hh
    injection hh with hh
    rw [hh]
    simp
    omega
  · intro hh
    congr 1
    apply UInt8.toNat_inj.1
    simp
    omega
end Pl
namespace Mm
open Pl
theorem frozenOf {w : World} {p i : Nat} {cs : Array Value} {T : TypeId} (h : w.heap[p]? = some (.cells cs T (0, 0))) : w.frozen? ⟨p, i, none⟩ = false := by
  unfold World.frozen?
  rw [h]
  simp
theorem heapSet {w : World} {p : Nat} {cs : Array Value} {T : TypeId} {z : Nat × Nat} (h : w.heap[p]? = some (.cells cs T z)) (i : Nat) (u : Value) : (w.setCell ⟨p, i, none⟩ u).heap[p]? = some (.cells (cs.setIfInBounds i u) T z) := by
  simp [World.setCell, Array.getElem?_modify, h]
theorem grownSet (w : World) (p i : Nat) (u : Value) : w.grownBy (w.setCell ⟨p, i, none⟩ u) (some p) :=
  ⟨rfl, rfl, rfl, by simp [World.setCell], fun k _ hk => Below.heap_setCell w _ u k (fun e => hk (by rw [e]))⟩
/-- what a call that appended to one row and stored to the parser's own block leaves as it was -/
theorem far (w : World) (o : Obj) {w6 w8 : World} {p : Nat} {r : Value} (hg : (w.drew.alloc o).grownBy w6 r.ownBlock) (h8 : w6.grownBy w8 (some p)) {g : Nat} (hg0 : g < w.heap.size) (h1 : p + 1 ≤ g) (h2 : r.ownBlock ≠ some g) : w8.heap[g]? = w.heap[g]? := by
  have hs : (w.drew.alloc o).heap.size = w.heap.size + 1 := by simp
  have h6 := hg.size
  rw [h8.block g (by omega) (fun e => by injection e with e; omega), hg.block g (by omega) (fun e => h2 e.symm)]
  exact Below.heap_alloc w.drew o g hg0
theorem PV.words {w w6 w8 : World} {o : Obj} {p : Nat} {bv wv rv ev v6 : Value} {st st' : Pst} {rows : List Value} {x : List UInt8} (h : PV w p bv st wv rv ev rows) (ho : OwnS w6 (p + 1) v6 (st.words ++ [x])) (hg : (w.drew.alloc o).grownBy w6 wv.ownBlock)
    (hat : v6.ownBlock = wv.ownBlock ∨ v6.ownBlock = some (w.drew.alloc o).heap.size) (h8 : w6.grownBy w8 (some p)) (hp : w8.heap[p]? = some (.cells (cellsP bv v6 rv ev st') 64 (0, 0)))
    (h1 : st'.words = st.words ++ [x]) (h2 : st'.ready = st.ready) (h3 : st'.err = st.err) : PV w8 p bv st' v6 rv ev rows := by
  have hs : (w.drew.alloc o).heap.size = w.heap.size + 1 := by simp
  refine ⟨hp, ?_, ?_, ?_, ?_, ?_, by rw [h3]; exact h.2.2.2.2.2.2⟩
  · rw [h1]
    exact ho.keep fun g hg' => h8.block g (ho.lt g hg').2 (fun e => by injection e with e; have := (ho.lt g hg').1; omega)
  · exact ownsRow_keep h.2.2.1 fun g hg' => far w o hg h8 (h.2.2.1.lt g hg').2 (h.2.2.1.lt g hg').1 (fun e => h.2.2.2.2.1 g e hg')
  · rw [h2]
    exact h.2.2.2.1.keep fun v hv g hg' => by
      obtain ⟨l, hl⟩ := h.2.2.2.1.row hv
      exact far w o hg h8 (hl.lt g hg').2 (hl.lt g hg').1 (fun e => (h.2.2.2.2.2.1 v hv).1 g hg' e)
  · intro g hg1 hg2
    rcases hat with e | e
    · rw [e] at hg1
      exact h.2.2.2.2.1 g hg1 hg2
    · rw [e] at hg1
      injection hg1 with hg1
      have := (h.2.2.1.lt g hg2).2
      omega
  · intro v hv
    refine ⟨fun g hg1 hg2 => ?_, (h.2.2.2.2.2.1 v hv).2⟩
    rcases hat with e | e
    · rw [e] at hg2
      exact (h.2.2.2.2.2.1 v hv).1 g hg1 hg2
    · rw [e] at hg2
      injection hg2 with hg2
      obtain ⟨l, hl⟩ := h.2.2.2.1.row hv
      have := (hl.lt g hg1).2
      omega
theorem PV.readied {w w6 w8 : World} {o : Obj} {p : Nat} {bv wv rv ev v6 : Value} {st st' : Pst} {rows : List Value} (h : PV w p bv st wv rv ev rows) (ho : w6.ownsRow (p + 1) 39 1 v6 (rows ++ [wv]).length (rows ++ [wv])) (hg : (w.drew.alloc o).grownBy w6 rv.ownBlock)
    (hat : v6.ownBlock = rv.ownBlock ∨ v6.ownBlock = some (w.drew.alloc o).heap.size) (h8 : w6.grownBy w8 (some p)) (hp : w8.heap[p]? = some (.cells (cellsP bv (.slice none 0 0) v6 ev st') 64 (0, 0)))
    (h1 : st'.words = []) (h2 : st'.ready = st.ready ++ [st.words]) (h3 : st'.err = st.err) : PV w8 p bv st' (.slice none 0 0) v6 ev (rows ++ [wv]) := by
  have hs : (w.drew.alloc o).heap.size = w.heap.size + 1 := by simp
  have hrow : ∀ v ∈ rows ++ [wv], (∃ l, OwnS w (p + 1) v l) ∧ noA v rv := by
    intro v hv
    rcases List.mem_append.1 hv with hv | hv
    · exact ⟨h.2.2.2.1.row hv, (h.2.2.2.2.2.1 v hv).2⟩
    · obtain rfl : v = wv := by simpa using hv
      exact ⟨⟨_, h.2.1⟩, h.2.2.2.2.1⟩
  refine ⟨hp, by rw [h1]; exact ownS_nil _ _, ?_, ?_, fun g hg => (by cases hg), ?_, by rw [h3]; exact h.2.2.2.2.2.2⟩
  · exact ownsRow_keep ho fun g hg' => h8.block g (ho.lt g hg').2 (fun e => by injection e with e; have := (ho.lt g hg').1; omega)
  · have k : Rdy w (p + 1) (rows ++ [wv]) (st.ready ++ [st.words]) := by
      refine ⟨by simp [h.2.2.2.1.1], fun i l hl => ?_⟩
      rcases Nat.lt_or_ge i st.ready.length with hi | hi
      · rw [List.getElem?_append_left hi] at hl
        obtain ⟨v, e1, e2⟩ := h.2.2.2.1.2 i l hl
        exact ⟨v, by rw [List.getElem?_append_left (by rw [h.2.2.2.1.1]; exact hi)]; exact e1, e2⟩
      · rw [List.getElem?_append_right hi] at hl
        have h0 : i - st.ready.length = 0 := by
          have := (List.getElem?_eq_some_iff.1 hl).1
          simp at this
          omega
        rw [h0] at hl
        obtain rfl : st.words = l := by simpa using hl
        refine ⟨wv, ?_, h.2.1⟩
        rw [List.getElem?_append_right (by rw [h.2.2.2.1.1]; exact hi), h.2.2.2.1.1, h0]
        rfl
    rw [h2]
    exact k.keep fun v hv g hg' => by
      obtain ⟨⟨l, hl⟩, hn⟩ := hrow v hv
      exact far w o hg h8 (hl.lt g hg').2 (hl.lt g hg').1 (fun e => hn g hg' e)
  · intro v hv
    obtain ⟨⟨l, hl⟩, hn⟩ := hrow v hv
    refine ⟨fun g _ hg2 => (by cases hg2), fun g hg1 hg2 => ?_⟩
    rcases hat with e | e
    · rw [e] at hg2
      exact hn g hg1 hg2
    · rw [e] at hg2
      injection hg2 with hg2
      have := (hl.lt g hg1).2
      omega
theorem chgW {w w6 w8 : World} {o : Obj} {p : Nat} {wv rv v6 : Value} {rows : List Value} (hg : (w.drew.alloc o).grownBy w6 wv.ownBlock) (hat : v6.ownBlock = wv.ownBlock ∨ v6.ownBlock = some (w.drew.alloc o).heap.size) (h8 : w6.grownBy w8 (some p)) : Chg w (foot p wv rv rows) w8 (foot p v6 rv rows) := by
  have hs : (w.drew.alloc o).heap.size = w.heap.size + 1 := by simp
  have h6 := hg.size
  have h7 := h8.size
  refine ⟨h8.os.trans hg.os, h8.tape.trans (hg.tape.trans rfl), h8.output.trans hg.output, by omega, fun g hg0 hf => ?_, fun g hg' => ?_⟩
  · rw [h8.block g (by omega) (fun e => by injection e with e; exact hf (.inl e)), hg.block g (by omega) (fun e => hf (.inr (.inl e.symm)))]
    exact Below.heap_alloc w.drew o g hg0
  · rcases hg' with e | e | e
    · exact .inl (.inl e)
    · rcases hat with h | h
      · exact .inl (.inr (.inl (by rw [← h]; exact e)))
      · rw [h] at e
        injection e with e
        exact .inr (by omega)
    · exact .inl (.inr (.inr e))
theorem chgR {w w6 w8 : World} {o : Obj} {p : Nat} {wv rv v6 : Value} {rows : List Value} (hg : (w.drew.alloc o).grownBy w6 rv.ownBlock) (hat : v6.ownBlock = rv.ownBlock ∨ v6.ownBlock = some (w.drew.alloc o).heap.size) (h8 : w6.grownBy w8 (some p)) : Chg w (foot p wv rv rows) w8 (foot p (.slice none 0 0) v6 (rows ++ [wv])) := by
  have hs : (w.drew.alloc o).heap.size = w.heap.size + 1 := by simp
  have h6 := hg.size
  have h7 := h8.size
  refine ⟨h8.os.trans hg.os, h8.tape.trans (hg.tape.trans rfl), h8.output.trans hg.output, by omega, fun g hg0 hf => ?_, fun g hg' => ?_⟩
  · rw [h8.block g (by omega) (fun e => by injection e with e; exact hf (.inl e)), hg.block g (by omega) (fun e => hf (.inr (.inr (.inl e.symm))))]
    exact Below.heap_alloc w.drew o g hg0
  · rcases hg' with e | e | e | ⟨v, hv, e⟩
    · exact .inl (.inl e)
    · cases e
    · rcases hat with h | h
      · exact .inl (.inr (.inr (.inl (by rw [← h]; exact e))))
      · rw [h] at e
        injection e with e
        exact .inr (by omega)
    · rcases List.mem_append.1 hv with hv | hv
      · exact .inl (.inr (.inr (.inr ⟨v, hv, e⟩)))
      · obtain rfl : v = wv := by simpa using hv
        exact .inl (.inr (.inl e))
theorem run_app1 (w1 w : World) (ty t e : TypeId) (bytes : Nat) (z : Value) (hz0 : z.cells.size = 1) (hi : (Tryz.prog.info? e).map (fun i => (i.zero, i.size, i.bytes)) = some (some z, 1, bytes)) (ht : Tryz.prog.underlying t = some (.slice e))
    (u : Value) (hw : w = w1.alloc (.cells #[u] e)) (base : Nat) (v : Value) (xs : List Value) (h : w1.ownsRow base e 1 v xs.length xs) (hu : u.oneCell' = true) (hl : xs.length + 1 ≤ maxLen) (hb : (xs.length + 1) * bytes ≤ 140737488355328) (hbase : base ≤ w1.heap.size) :
    ∃ v' w', (Builtin.append_ #[t, t] ty #[v, .slice (some ⟨w1.heap.size, 0, none⟩) 1 1]).run Tryz.prog w = .ok v' w' ∧ w'.ownsRow base e 1 v' (xs ++ [u]).length (xs ++ [u]) ∧ w.grownBy w' v.ownBlock ∧ (v'.ownBlock = v.ownBlock ∨ v'.ownBlock = some w.heap.size) := by
  subst hw
  obtain ⟨i0, h1, h2, h3, h4⟩ := info_parts hi
  obtain ⟨v', w', hr, r1, r2, _, r4⟩ := run_append_own_at (P := Tryz.prog) (w1.alloc (.cells #[u] e)) base t ty e i0 z 1 bytes ht h1 h2 h3 h4 hz0 (by decide) v xs.length xs (h.alloc _) ⟨w1.heap.size, 0, none⟩ 1 1 [u] rfl
    (cell_one_new _ _ _) (by intro x hx; simp at hx; subst hx; exact hu) hl hb (by simp; omega)
  exact ⟨v', w', hr, by rw [List.length_append]; exact r1, r2, r4⟩
theorem wp0_app1 {o : Oper} {a : Act} {K : Act → World → Prop} {Q : Exit → Act → World → Prop} (w : World) (x y : Operand) (t e : TypeId) (bytes : Nat) (z : Value) (hz0 : z.cells.size = 1) (hi : (Tryz.prog.info? e).map (fun i => (i.zero, i.size, i.bytes)) = some (some z, 1, bytes)) (ht : Tryz.prog.underlying t = some (.slice e))
    (ho : o.op = .call { callee := .builtin .append, args := #[x, y], argTypes := #[t, t] })
    (w1 : World) (u : Value) (base : Nat) (v : Value) (xs : List Value) (hx : a.eval x = v) (h : w1.ownsRow base e 1 v xs.length xs) (hu : u.oneCell' = true) (hy : a.eval y = .slice (some ⟨w1.heap.size, 0, none⟩) 1 1) (hw : w = w1.alloc (.cells #[u] e))
    (hl : xs.length + 1 ≤ maxLen) (hb : (xs.length + 1) * bytes ≤ 140737488355328) (hbase : base ≤ w1.heap.size)
    (hK : ∀ v' w', w'.ownsRow base e 1 v' (xs ++ [u]).length (xs ++ [u]) → w.grownBy w' v.ownBlock → (v'.ownBlock = v.ownBlock ∨ v'.ownBlock = some w.heap.size) → K (a.put o.dst v') w') : o.wp Tryz.prog a w K Q := by
  obtain ⟨v', w', hr, h2, h3, h4⟩ := run_app1 w1 w o.type t e bytes z hz0 hi ht u hw base v xs h hu hl hb hbase
  unfold Oper.wp execOp
  simp only [ho, resolve, invoke, builtin, Sem.run_bind, Sem.run_pure, Result.andThen_ok, List.map_toArray, List.map_cons, List.map_nil, hx, hy, hr]
  exact hK v' w' h2 h3 h4
/-- 'append(words, s)' in a region that draws its order -/
theorem step_appS {ops : Array Oper} {o : Oper} {a : Act} {K : Act → World → Prop} {Q : Exit → Act → World → Prop} {E : Prop} (w : World) (hgd : o.guard = none) (x y : Operand)
    (ho : o.op = .call { callee := .builtin .append, args := #[x, y], argTypes := #[39, 39] })
    (w1 : World) (s : ByteArray) (base : Nat) (v : Value) (l : List (List UInt8)) (hx : a.eval x = v) (h : OwnS w1 base v l) (hy : a.eval y = .slice (some ⟨w1.heap.size, 0, none⟩) 1 1) (hw : w = w1.alloc (.cells #[.string s] 9))
    (hl : l.length < 8796093022207) (hbase : base ≤ w1.heap.size)
    (hK : ∀ v' w', OwnS w' base v' (l ++ [L s]) → w.grownBy w' v.ownBlock → (v'.ownBlock = v.ownBlock ∨ v'.ownBlock = some w.heap.size) → K (a.put o.dst v') w') :
    if Region.wanted o (yielded ops a.tmps) = true then Oper.wp Tryz.prog o a w K Q else E := by
  have hwd : Region.wanted o (yielded ops a.tmps) = true := by simp [Region.wanted, hgd]
  rw [if_pos hwd]
  have hlen : (strsV l).length = l.length := by simp [strsV]
  refine wp0_app1 w x y 39 9 16 (.string ⟨#[]⟩) rfl Tryz.info_str Tryz.underlying39 ho w1 (.string s) base v (strsV l) hx (by rw [hlen]; exact h) rfl hy hw (by rw [hlen]; unfold maxLen; omega) (by rw [hlen]; omega) hbase fun v' w' h1 h2 h3 => hK v' w' ?_ h2 h3
  unfold OwnS
  have e : strsV (l ++ [L s]) = strsV l ++ [.string s] := by rw [strsV_append]; simp [strsV, B_L]
  rw [e]
  have e2 : (l ++ [L s]).length = (strsV l ++ [Value.string s]).length := by simp [hlen]
  rw [e2]
  exact h1
/-- 'append(ready, words)' in a region that draws its order -/
theorem step_appC {ops : Array Oper} {o : Oper} {a : Act} {K : Act → World → Prop} {Q : Exit → Act → World → Prop} {E : Prop} (w : World) (hgd : o.guard = none) (x y : Operand)
    (ho : o.op = .call { callee := .builtin .append, args := #[x, y], argTypes := #[62, 62] })
    (w1 : World) (u : Value) (hu : u.oneCell' = true) (base : Nat) (v : Value) (xs : List Value) (hx : a.eval x = v) (h : w1.ownsRow base 39 1 v xs.length xs) (hy : a.eval y = .slice (some ⟨w1.heap.size, 0, none⟩) 1 1) (hw : w = w1.alloc (.cells #[u] 39))
    (hl : xs.length < 4398046511103) (hbase : base ≤ w1.heap.size)
    (hK : ∀ v' w', w'.ownsRow base 39 1 v' (xs ++ [u]).length (xs ++ [u]) → w.grownBy w' v.ownBlock → (v'.ownBlock = v.ownBlock ∨ v'.ownBlock = some w.heap.size) → K (a.put o.dst v') w') :
    if Region.wanted o (yielded ops a.tmps) = true then Oper.wp Tryz.prog o a w K Q else E := by
  have hwd : Region.wanted o (yielded ops a.tmps) = true := by simp [Region.wanted, hgd]
  rw [if_pos hwd]
  exact wp0_app1 w x y 62 39 24 (.slice none 0 0) rfl Tryz.info_strs Tryz.underlying62 ho w1 u base v xs hx h hu hy hw (by unfold maxLen; omega) (by omega) hbase hK
end Mm

end Go.Proofs.YtgpbgldnaongnaaGreatDoor

namespace Go.Proofs.YtgpbgldnaongnaaGreatDoor
open Go.RowKit
set_option maxRecDepth 20000

theorem Mm.ownsRow_slice {w : World} {b : Nat} {t : TypeId} {k : Nat} {v : Value} {n : Nat} {cs : List Value} (h : w.ownsRow b t k v n cs) : ∃ a m c, v = .slice a m c := by
  rcases h.2 with ⟨rfl, _⟩ | ⟨g, cap, cur, rfl, _⟩
  · exact ⟨_, _, _, rfl⟩
  · exact ⟨_, _, _, rfl⟩

set_option maxHeartbeats 8000000 in
theorem word_walk (p g o c : Nat) (l : List UInt8) (bv : Value) (st : Pl.Pst) (F : Nat → Prop) (W w : World) (_ : W.heap.size ≤ p) (hR : Mm.RErr W) (hW : Below W.heap.size W w) (_ : l.length ≤ 140737488351232) (hc : l.length ≤ c) (h : Mm.BytesAt w g o l)
    (hp : Mm.PQ w p bv st F) (he : st.err = false) (hn0 : 0 ≤ st.need) (hn1 : st.need ≤ 1048576) (hf0 : 0 < st.left) (hf1 : st.left ≤ 1024) (hu : st.used ≤ 4503599627370496) (hwd : st.words.length ≤ 1099511627776) (hrd : st.ready.length ≤ 1099511627776) :
    Calls Tryz.prog 37 #[.pointer (some ⟨p, 0, none⟩), .slice (some ⟨g, o, none⟩) l.length c] w fun e w' => e = .returned (.int .i64 ((Pl.wordM st l).1 : Int)) ∧ ∃ F', Mm.PQ w' p bv (Pl.wordM st l).2 F' ∧ Mm.Chg w F w' F' := by
  obtain ⟨T3, x3, hx3⟩ := (hR.on hW).here 0 (by simp)
  obtain ⟨wv, rv, ev, rows, hv, hF⟩ := hp
  obtain ⟨n, hn⟩ := Int.eq_ofNat_of_zero_le hn0
  rw [hn] at hn1
  have HM := Pl.hid h
  have HV := Pl.hid hv
  have He := Pl.hid he
  have HN := Pl.hid hn
  have hpl := hv.lt
  have HPL := Pl.hid hpl
  have HF := Pl.hid hF
  have c5 := hv.cell 5 (.int .i64 (n : Int)) (by show some (Value.int .i64 st.need) = _; rw [hn])
  have HRD : Hid (rows.length ≤ 1099511627776) := by show _ ≤ _; rw [hv.2.2.2.1.1]; exact hrd
  clear hR hW h hv he hrd hF
  unfold Pl.wordM
  have htn : st.need.toNat = n := by rw [hn]; rfl
  rw [htn]
  clear htn hn hn0
  rcases Nat.lt_or_ge n l.length with h1 | h1
  · have b1 := HM.out n h1
    have h13 := Pl.at_is (l := l) (n := n) (k := 13) h1 (by decide)
    rw [show UInt8.ofNat 13 = 13 from rfl] at h13
    cases hb : (Pl.at_ l n == ((13 : Nat) : Int)) with
    | false =>
      rw [if_pos (.inl ⟨h1, fun e => by rw [h13.1 e] at hb; cases hb⟩)]
      generalize Pl.at_ l n = a0 at b1 hb
      clear h13
      have hb' : (a0 != 13) = true := by simpa [bne] using hb
      clear hb
      go_enter Tryz.func37, Tryz.ntmps37
      go_wp2_with (first | (refine Mm.wp_storeF _ rfl 60 _ _ (by rfl) (by kernel_rfl) p 7 64 (Mm.cellsP bv wv rv ev st) (.iface T3 x3) HV.out.1 (by rfl) (by rfl) (by simp [Mm.cellsP]) rfl rfl ?_; intro w3 h3 hz3 hg3; clear hz3))
      go_ret
      refine ⟨rfl, F, ⟨wv, rv, .iface T3 x3, rows, HV.out.store hg3 h3 rfl rfl (.inl ⟨rfl, _, _, rfl⟩), HF.out⟩, Mm.Chg.grown hg3 (fun g e => by rw [HF.out]; injection e with e; exact .inl e.symm) (fun _ h => .inl h)⟩
    | true =>
      rcases Nat.lt_or_ge (n + 1) l.length with h2 | h2
      · have b2 := HM.out (n + 1) h2
        have h10 := Pl.at_is (l := l) (n := n + 1) (k := 10) h2 (by decide)
        rw [show UInt8.ofNat 10 = 10 from rfl] at h10
        cases hb2 : (Pl.at_ l (n + 1) == ((10 : Nat) : Int)) with
        | false =>
          rw [if_pos (.inr ⟨h2, fun e => by rw [h10.1 e] at hb2; cases hb2⟩)]
          generalize Pl.at_ l n = a0 at b1 hb
          generalize Pl.at_ l (n + 1) = a1 at b2 hb2
          clear h13 h10
          have hb' : (a0 != 13) = false := by simpa [bne] using hb
          have hb2' : (a1 != 10) = true := by simpa [bne] using hb2
          clear hb hb2
          go_enter Tryz.func37, Tryz.ntmps37
          go_wp2_with (first | (refine Mm.wp_storeF _ rfl 60 _ _ (by rfl) (by kernel_rfl) p 7 64 (Mm.cellsP bv wv rv ev st) (.iface T3 x3) HV.out.1 (by rfl) (by rfl) (by simp [Mm.cellsP]) rfl rfl ?_; intro w3 h3 hz3 hg3; clear hz3))
          go_ret
          refine ⟨rfl, F, ⟨wv, rv, .iface T3 x3, rows, HV.out.store hg3 h3 rfl rfl (.inl ⟨rfl, _, _, rfl⟩), HF.out⟩, Mm.Chg.grown hg3 (fun g e => by rw [HF.out]; injection e with e; exact .inl e.symm) (fun _ h => .inl h)⟩
        | true =>
          rw [if_neg (by rintro (⟨_, h⟩ | ⟨_, h⟩); exact h (h13.2 hb); exact h (h10.2 hb2)), if_neg (by omega)]
          generalize Pl.at_ l n = a0 at b1 hb
          generalize Pl.at_ l (n + 1) = a1 at b2 hb2
          clear h13 h10
          have hb' : (a0 != 13) = false := by simpa [bne] using hb
          have hb2' : (a1 != 10) = false := by simpa [bne] using hb2
          clear hb hb2
          have c2 := HV.out.cell 2 wv rfl
          have hcv0 := Mm.conv_at w.drew g o n n (l.take n) (by rw [List.length_take]; omega) (HM.out.take n)
          have hnc : n ≤ c := by omega
          have hca : (w.drew.alloc (.cells #[.string (Pl.B (l.take n))] 9)).cell? ⟨p, 2, none⟩ = some wv := (World.cell?_alloc_old _ _ _ (Nat.ne_of_lt hpl)).trans c2
          have hwbig : st.words.length < 8796093022207 := by omega
          have HST : Hid (∀ w6, (w.drew.alloc (.cells #[.string (Pl.B (l.take n))] 9)).grownBy w6 wv.ownBlock → w6.heap[p]? = some (.cells (Mm.cellsP bv wv rv ev st) 64 (0, 0)) ∧ w6.cell? ⟨p, 2, none⟩ = some wv ∧ w6.frozen? ⟨p, 2, none⟩ = false) := fun w6 hg => by
            have h6 := (hg.block p (by simp; have := HPL.out; omega) (fun e => by have := (HV.out.2.1.lt p e.symm).1; omega)).trans ((Below.heap_alloc _ _ _ HPL.out).trans HV.out.1)
            exact ⟨h6, Mm.cellOf h6 rfl, Mm.frozenOf h6⟩
          obtain ⟨k, hk⟩ : ∃ k, st.left = k + 1 := ⟨st.left - 1, by omega⟩
          have HK := Pl.hid hk
          cases k with
          | zero =>
            rw [if_pos hk]
            clear hk hf0 hf1
            go_enter Tryz.func37, Tryz.ntmps37
            go_wp2_with fail
            go_region_law (refine Mm.step_appS _ (by rfl) _ _ (by rfl) w.drew (Pl.B (l.take n)) (p + 1) wv st.words (by rfl) HV.out.2.1 (by rfl) (by rfl) hwbig hpl ?_; intro v6 w6 ho6 hg6 hat6; obtain ⟨a6, k6, rfl, _⟩ := ho6.val; obtain ⟨hh6, p6, pf6⟩ := HST.out w6 hg6)
            all_goals
              have elen : (st.words ++ [Pl.L (Pl.B (l.take n))]).length = st.words.length + 1 := by simp
              rw [elen] at ho6 hat6
              have HP7 := Pl.hid (Mm.heapSet hh6 2 (.slice a6 (st.words.length + 1) k6))
              have HG7 := Pl.hid (Mm.grownSet w6 p 2 (.slice a6 (st.words.length + 1) k6))
              generalize World.setCell w6 _ _ = w7 at HP7 HG7 ⊢
              have HO6 := Pl.hid ho6
              have HG6 : Hid ((w.drew.alloc (.cells #[.string (Pl.B (l.take n))] 9)).grownBy w6 wv.ownBlock) := hg6
              have HAT6 : Hid ((Value.slice a6 (st.words.length + 1) k6).ownBlock = wv.ownBlock ∨ (Value.slice a6 (st.words.length + 1) k6).ownBlock = some (w.drew.alloc (.cells #[.string (Pl.B (l.take n))] 9)).heap.size) := hat6
              clear elen ho6 hg6 hat6 hh6 p6 pf6 hca hcv0 c2 b1 b2 c5 hb' hb2' 
            all_goals
              have d3 : w7.cell? ⟨p, 3, none⟩ = some (.int .i64 1) := Mm.cellOf (i := 3) HP7.out (by show some (Value.int .i64 (st.left : Int)) = _; rw [HK.out]; rfl)
              go_wp2_with (first
                | (refine Mm.wp_storeF _ rfl 3 _ _ (by rfl) (by kernel_rfl) p 5 64 _ _ HP7.out (by rfl) (by rfl) (by simp [Mm.cellsP]) rfl rfl ?_; intro w8 h8 hz8 hg8; have H8 := Pl.hid h8; have HG8 := Pl.hid hg8; clear h8 hz8 hg8; have d3 := Mm.cellOf (i := 3) (v := .int .i64 1) H8.out (by show some (Value.int .i64 (st.left : Int)) = _; rw [HK.out]; rfl))
                | (refine Mm.wp_storeF _ rfl 3 _ _ (by rfl) (by kernel_rfl) p 3 64 _ _ H8.out (by rfl) (by rfl) (by simp [Mm.cellsP]) rfl rfl ?_; intro w9 h9 hz9 hg9; have H9 := Pl.hid h9; have HG9 := Pl.hid hg9; clear h9 hz9 hg9; have d1 := Mm.cellOf (i := 1) (v := .int .i64 (st.used : Int)) H9.out rfl; clear d3; have d3 := Mm.cellOf (i := 3) (v := .int .i64 0) H9.out rfl)
                | (refine Mm.wp_storeF _ rfl 3 _ _ (by rfl) (by kernel_rfl) p 1 64 _ _ H9.out (by rfl) (by rfl) (by simp [Mm.cellsP]) rfl rfl ?_; intro w10 h10 hz10 hg10; have H10 := Pl.hid h10; have HG10 := Pl.hid hg10; clear h10 hz10 hg10; clear d1 d3; have d3 := Mm.cellOf (i := 3) (v := .int .i64 0) H10.out rfl))
              have hgg := Mm.gTrans HG7.out (Mm.gTrans HG8.out (Mm.gTrans HG9.out HG10.out))
              have HVX : Hid (Mm.PV w10 p bv { st with words := st.words ++ [Pl.L (Pl.B (l.take n))], need := -1, left := 0, used := st.used + (n + 2) } (.slice a6 (st.words.length + 1) k6) rv ev rows) := HV.out.words HO6.out HG6.out HAT6.out hgg H10.out rfl rfl rfl
              have HCX := Pl.hid (Mm.chgW (rv := rv) (rows := rows) HG6.out HAT6.out hgg)
              have c6 := HVX.out.cell 6 rv rfl
              have c2 := HVX.out.cell 2 (.slice a6 (st.words.length + 1) k6) rfl
              have hpl10 := HVX.out.lt
              have HPL10 := Pl.hid hpl10
              have ca6 : (w10.drew.alloc (.cells #[.slice a6 (st.words.length + 1) k6] 39)).cell? ⟨p, 6, none⟩ = some rv := (World.cell?_alloc_old _ _ _ (Nat.ne_of_lt hpl10)).trans c6
              have ca2 : (w10.drew.alloc (.cells #[.slice a6 (st.words.length + 1) k6] 39)).cell? ⟨p, 2, none⟩ = some (.slice a6 (st.words.length + 1) k6) := (World.cell?_alloc_old _ _ _ (Nat.ne_of_lt hpl10)).trans c2
              have hrb : rows.length < 4398046511103 := by have := HRD.out; omega
              have HSTX : Hid (∀ wy, (w10.drew.alloc (.cells #[.slice a6 (st.words.length + 1) k6] 39)).grownBy wy rv.ownBlock → wy.heap[p]? = some (.cells (Mm.cellsP bv (.slice a6 (st.words.length + 1) k6) rv ev { st with words := st.words ++ [Pl.L (Pl.B (l.take n))], need := -1, left := 0, used := st.used + (n + 2) }) 64 (0, 0)) ∧ wy.cell? ⟨p, 6, none⟩ = some rv ∧ wy.frozen? ⟨p, 6, none⟩ = false) := fun wy hg => by
                have h6 := (hg.block p (by simp; have := HPL10.out; omega) (fun e => by have := (HVX.out.2.2.1.lt p e.symm).1; omega)).trans ((Below.heap_alloc _ _ _ HPL10.out).trans HVX.out.1)
                exact ⟨h6, Mm.cellOf h6 rfl, Mm.frozenOf h6⟩
              clear hgg d3
              go_region_law (refine Mm.step_appC _ (by rfl) _ _ (by rfl) w10.drew (.slice a6 (st.words.length + 1) k6) rfl (p + 1) rv rows (by rfl) HVX.out.2.2.1 (by rfl) (by rfl) hrb hpl10 ?_; intro vy wy hoy hgy haty; obtain ⟨ay, ny, ky, rfl⟩ := Mm.ownsRow_slice hoy; obtain ⟨hhy, py, pfy⟩ := HSTX.out wy hgy)
              all_goals
                have HPY := Pl.hid (Mm.heapSet hhy 6 (.slice ay ny ky))
                have HGY7 := Pl.hid (Mm.grownSet wy p 6 (.slice ay ny ky))
                generalize World.setCell wy _ _ = wz at HPY HGY7 ⊢
                have HOY := Pl.hid hoy
                have HGY : Hid ((w10.drew.alloc (.cells #[.slice a6 (st.words.length + 1) k6] 39)).grownBy wy rv.ownBlock) := hgy
                have HATY : Hid ((Value.slice ay ny ky).ownBlock = rv.ownBlock ∨ (Value.slice ay ny ky).ownBlock = some (w10.drew.alloc (.cells #[.slice a6 (st.words.length + 1) k6] 39)).heap.size) := haty
                clear hoy hgy haty hhy py pfy ca6 ca2 c6 c2
                go_wp2_with (first
                  | (refine Mm.wp_storeF _ rfl 39 _ _ (by rfl) (by kernel_rfl) p 2 64 _ _ HPY.out (by rfl) (by rfl) (by simp [Mm.cellsP]) rfl rfl ?_; intro w11 h11 hz11 hg11; have H11 := Pl.hid h11; have HG11 := Pl.hid hg11; clear h11 hz11 hg11)
                  | (refine Mm.wp_storeF _ rfl 3 _ _ (by rfl) (by kernel_rfl) p 1 64 _ _ H11.out (by rfl) (by rfl) (by simp [Mm.cellsP]) rfl rfl ?_; intro w12 h12 hz12 hg12; have H12 := Pl.hid h12; have HG12 := Pl.hid hg12; clear h12 hz12 hg12))
                go_ret
                have hgz := Mm.gTrans HGY7.out (Mm.gTrans HG11.out HG12.out)
                refine ⟨rfl, Mm.foot p (.slice none 0 0) (.slice ay ny ky) (rows ++ [.slice a6 (st.words.length + 1) k6]), ⟨_, _, ev, _, HVX.out.readied HOY.out HGY.out HATY.out hgz H12.out rfl ?_ rfl, rfl⟩, ?_⟩
                · show st.ready ++ _ = st.ready ++ _
                  rw [Pl.L_B]
                · rw [HF.out]
                  exact HCX.out.trans (Mm.chgR HGY.out HATY.out hgz)
          | succ k =>
            rw [if_neg (by omega)]
            clear hk hf0
            go_enter Tryz.func37, Tryz.ntmps37
            go_wp2_with fail
            go_region_law (refine Mm.step_appS _ (by rfl) _ _ (by rfl) w.drew (Pl.B (l.take n)) (p + 1) wv st.words (by rfl) HV.out.2.1 (by rfl) (by rfl) hwbig hpl ?_; intro v6 w6 ho6 hg6 hat6; obtain ⟨a6, k6, rfl, _⟩ := ho6.val; obtain ⟨hh6, p6, pf6⟩ := HST.out w6 hg6)
            all_goals
              have elen : (st.words ++ [Pl.L (Pl.B (l.take n))]).length = st.words.length + 1 := by simp
              rw [elen] at ho6 hat6
              have HP7 := Pl.hid (Mm.heapSet hh6 2 (.slice a6 (st.words.length + 1) k6))
              have HG7 := Pl.hid (Mm.grownSet w6 p 2 (.slice a6 (st.words.length + 1) k6))
              generalize World.setCell w6 _ _ = w7 at HP7 HG7 ⊢
              have HO6 := Pl.hid ho6
              have HG6 : Hid ((w.drew.alloc (.cells #[.string (Pl.B (l.take n))] 9)).grownBy w6 wv.ownBlock) := hg6
              have HAT6 : Hid ((Value.slice a6 (st.words.length + 1) k6).ownBlock = wv.ownBlock ∨ (Value.slice a6 (st.words.length + 1) k6).ownBlock = some (w.drew.alloc (.cells #[.string (Pl.B (l.take n))] 9)).heap.size) := hat6
              clear elen ho6 hg6 hat6 hh6 p6 pf6 hca hcv0 c2 b1 b2 c5 hb' hb2' 
            all_goals
              have d3 : w7.cell? ⟨p, 3, none⟩ = some (.int .i64 ((k : Int) + 2)) := Mm.cellOf (i := 3) HP7.out (by show some (Value.int .i64 (st.left : Int)) = _; rw [HK.out]; rfl)
              have hkk : (k : Int) ≤ 1024 := by have := HK.out; omega
              have hk1 : ((k : Int) + 2 - 1 == 0) = false := beq_eq_false_iff_ne.2 (by omega)
              go_wp2_with (first
                | (refine Mm.wp_storeF _ rfl 3 _ _ (by rfl) (by kernel_rfl) p 5 64 _ _ HP7.out (by rfl) (by rfl) (by simp [Mm.cellsP]) rfl rfl ?_; intro w8 h8 hz8 hg8; have H8 := Pl.hid h8; have HG8 := Pl.hid hg8; clear h8 hz8 hg8; have d3 := Mm.cellOf (i := 3) (v := .int .i64 ((k : Int) + 2)) H8.out (by show some (Value.int .i64 (st.left : Int)) = _; rw [HK.out]; rfl))
                | (refine Mm.wp_storeF _ rfl 3 _ _ (by rfl) (by kernel_rfl) p 3 64 _ _ H8.out (by rfl) (by rfl) (by simp [Mm.cellsP]) rfl rfl ?_; intro w9 h9 hz9 hg9; have H9 := Pl.hid h9; have HG9 := Pl.hid hg9; clear h9 hz9 hg9; have d1 := Mm.cellOf (i := 1) (v := .int .i64 (st.used : Int)) H9.out rfl; clear d3; have d3 := Mm.cellOf (i := 3) (v := .int .i64 ((k : Int) + 2 - 1)) H9.out rfl)
                | (refine Mm.wp_storeF _ rfl 3 _ _ (by rfl) (by kernel_rfl) p 1 64 _ _ H9.out (by rfl) (by rfl) (by simp [Mm.cellsP]) rfl rfl ?_; intro w10 h10 hz10 hg10; have H10 := Pl.hid h10; have HG10 := Pl.hid hg10; clear h10 hz10 hg10; clear d1 d3; have d3 := Mm.cellOf (i := 3) (v := .int .i64 ((k : Int) + 2 - 1)) H10.out rfl))
              go_ret
              have hgg := Mm.gTrans HG7.out (Mm.gTrans HG8.out (Mm.gTrans HG9.out HG10.out))
              refine ⟨rfl, Mm.foot p (.slice a6 (st.words.length + 1) k6) rv rows, ⟨_, rv, ev, rows, HV.out.words HO6.out HG6.out HAT6.out hgg ?_ ?_ rfl rfl, rfl⟩, ?_⟩
              · have e : ((st.left - 1 : Nat) : Int) = (k : Int) + 2 - 1 := by rw [HK.out]; omega
                show w10.heap[p]? = some (Obj.cells #[bv, .int .i64 ((st.used + (n + 2) : Nat) : Int), .slice a6 (st.words.length + 1) k6, .int .i64 ((st.left - 1 : Nat) : Int), .int .i64 (st.size : Int), .int .i64 (-1), rv, ev] 64 (0, 0))
                rw [e]
                exact H10.out
              · rw [Pl.L_B]
              · rw [HF.out]
                exact Mm.chgW HG6.out HAT6.out hgg
      · rw [if_neg (by rintro (⟨_, h⟩ | ⟨h, _⟩); exact h (h13.2 hb); omega), if_pos (by omega)]
        generalize Pl.at_ l n = a0 at b1 hb
        clear h13
        have hb' : (a0 != 13) = false := by simpa [bne] using hb
        clear hb
        go_enter Tryz.func37, Tryz.ntmps37
        go_wp2_with fail
        go_ret
        exact ⟨rfl, F, ⟨wv, rv, ev, rows, HV.out, HF.out⟩, Mm.Chg.refl _ _⟩
  · rw [if_neg (by omega), if_pos (by omega)]
    go_enter Tryz.func37, Tryz.ntmps37
    go_wp2_with fail
    go_ret
    exact ⟨rfl, F, ⟨wv, rv, ev, rows, HV.out, HF.out⟩, Mm.Chg.refl _ _⟩
end Go.Proofs.YtgpbgldnaongnaaGreatDoor
