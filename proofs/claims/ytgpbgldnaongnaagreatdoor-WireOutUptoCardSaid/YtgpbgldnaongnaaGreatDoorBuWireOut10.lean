/- pantrylaw30.WireOut, the walk: true, at all replies, bytes and steps. Conditions: what is read is of bounded bulk; the listed variables stand as they were laid. request.Inline of a line that is no row of words: it tells some error. Conditions: the six errors stand as they were laid; a line of at most 4096 bytes. The frame of every law of this seat: if the walk returns true and turns nothing that was there, the law's statement follows. Conditions: what stands in 'lifted': the argument types can be read, one result, a bool. The frame of the laws whose rows list package-level variables: the witness's world, what the list gives. Conditions stand in each law. What arguments of the types []Reply, Step and []byte lie like in memory, and how great they are under the form's bound. Conditions stand in each law. Conditions stand in each law. -/
import Derived.Test.YtgpbgldnaongnaaGreatDoorBuWireOut9
import Derived.Test.YtgpbgldnaongnaaGreatDoorBuWireOut5
import Derived.Test.YtgpbgldnaongnaaGreatDoorBuWireOut1
import Derived.Test.YtgpbgldnaongnaaGreatDoorRows
import Derived.ProofKit
import Derived.OpenShut
import Derived.ChangeOld
import Derived.Below
import Derived.Deep.DeepHandedRow
import Derived.SizedLaws
import Derived.Test.YtgpbgldnaongnaaGreatDoorBuWireOut3
import Derived.Test.YtgpbgldnaongnaaGreatDoorCards
import Derived.Test.YtgpbgldnaongnaaGreatDoorTie
import Derived.Lay
import Derived.MakeChecks
import Derived.Stop.LaidErr
import Derived.Deep.Slices
import Derived.Test.YtgpbgldnaongnaaGreatDoorBuWireOut7
import Derived.Lib.SmallJoins
namespace Go.Proofs.YtgpbgldnaongnaaGreatDoor
open Go.RowKit
set_option maxRecDepth 20000

namespace Pl
def badL : List UInt8 := [80, 73, 78, 71, 13, 10, 42, 49, 13, 10, 43]
theorem bad_feed : ∃ st buf, feedA fresh [] badL = (st, buf) ∧ st.ready = [[[80, 73, 78, 71]]] ∧ st.err = true :=
  ⟨(feedA fresh [] badL).1, (feedA fresh [] badL).2, rfl, by decide +kernel, by decide +kernel⟩
end Pl
namespace Mm
open Pl
/-- two owned rows lie apart -/
def Apart (a b : Value) : Prop := ∀ g, a.ownBlock = some g → b.ownBlock = some g → False
theorem OwnB.off {w w' : World} {b : Nat} {v : Value} {l : List UInt8} (h : OwnB w b v l) {F F' : Nat → Prop} (hc : Chg w F w' F') (hn : ∀ g, v.ownBlock = some g → ¬ F g) : OwnB w' b v l :=
  h.keep fun g hg => hc.block g (h.lt g hg).2 (hn g hg)
theorem OwnB.byGrown {w w' : World} {b : Nat} {v u : Value} {l : List UInt8} (h : OwnB w b v l) (hg : w.grownBy w' u.ownBlock) (hn : Apart v u) : OwnB w' b v l :=
  h.keep fun g hv => hg.block g (h.lt g hv).2 (fun e => hn g hv e.symm)
end Mm

set_option maxHeartbeats 16000000 in
theorem wireout_walk (W : World) (hT : Mm.Tab W) (hX : Mm.MaxI W) (hR : Mm.RErr W) (hE : Mm.Errs W) (hI : Mm.InlE W) (v0 vb : Value) (l : List RT) (hl : Mm.RepY W (.mk 0 ⟨#[]⟩ 0 l) [.int .i64 0, .string ⟨#[]⟩, .int .i64 0, v0]) (hin : ∀ t ∈ l, t.In) (hsz : RT.szL l ≤ 1073741824)
    (z who : Int) (bv c3 c4 c5 c6 : Value) (t : RT) (ht : Mm.RepY W t [c3, c4, c5, c6]) (htsz : t.sz ≤ 1073741824) :
    Calls Tryz.prog 3 #[v0, vb, .agg #[.int .i64 z, .int .i64 who, bv, c3, c4, c5, c6]] W fun e w' => e = .returned (.bool true) ∧ Below W.heap.size W w' := by
  obtain ⟨la, lc, hv0, hel⟩ := hl.open
  simp only [List.cons.injEq, and_true, true_and] at hv0
  subst hv0
  obtain ⟨n, hn⟩ : ∃ n, n = l.length := ⟨_, rfl⟩
  rw [← hn]
  have hnl : n ≤ 1099511627776 := by have := RT.szL_len l; omega
  obtain ⟨w0, hw0⟩ : ∃ w0, w0 = W.alloc (.cells #[.int .i64 z, .int .i64 who, bv, c3, c4, c5, c6] 27) := ⟨_, rfl⟩
  have HB0 : Hid (Below W.heap.size W w0) := by rw [hw0]; exact (Below.refl _ _).alloc (Nat.le_refl _) _
  have HS0 : Hid (w0.heap.size = W.heap.size + 1) := by show _ = _; rw [hw0]; simp
  have HCC : Hid (∀ (V : World), Below w0.heap.size w0 V → V.cell? ⟨W.heap.size, 3, none⟩ = some c3 ∧ V.cell? ⟨W.heap.size, 4, none⟩ = some c4 ∧ V.cell? ⟨W.heap.size, 5, none⟩ = some c5 ∧ V.cell? ⟨W.heap.size, 6, none⟩ = some c6) := fun V hV => by
    have key : ∀ i v, w0.cell? ⟨W.heap.size, i, none⟩ = some v → V.cell? ⟨W.heap.size, i, none⟩ = some v := fun i v h =>
      (hV.cell (p := ⟨W.heap.size, i, none⟩) (by rw [HS0.out]; exact Nat.lt_succ_self _)).trans h
    refine ⟨key _ _ ?_, key _ _ ?_, key _ _ ?_, key _ _ ?_⟩ <;> (rw [hw0, World.cell?_alloc_mark]; rfl)
  have HW0 := Pl.hid hw0
  have HT := Pl.hid hT
  have HX := Pl.hid hX
  have HRR := Pl.hid hR
  have HEE := Pl.hid hE
  have HII := Pl.hid hI
  have HEL := Pl.hid hel
  have HIN := Pl.hid hin
  have HSZ := Pl.hid hsz
  have HREP := Pl.hid ht
  have HTSZ := Pl.hid htsz
  have HN := Pl.hid hn
  have hone := ht.one
  have o3 := hone c3 (by simp)
  have o4 := hone c4 (by simp)
  have o5 := hone c5 (by simp)
  have o6 := hone c6 (by simp)
  -- the cells of the i-th reply, in a world above
  have HCE : Hid (∀ i (hi : i < n), ∃ blk bo f0 f1 f2 f3, la = some ⟨blk, bo, none⟩ ∧ (∀ V, Below W.heap.size W V → V.cell? ⟨blk, bo + i * 4, none⟩ = some f0 ∧ V.cell? ⟨blk, bo + i * 4 + 1, none⟩ = some f1 ∧ V.cell? ⟨blk, bo + i * 4 + 2, none⟩ = some f2 ∧ V.cell? ⟨blk, bo + i * 4 + 3, none⟩ = some f3) ∧
      ∃ ti, l[i]? = some ti ∧ Mm.RepY W ti [f0, f1, f2, f3] ∧ ti.In ∧ ti.sz ≤ 1073741824) := fun i hi => by
    rcases HEL.out with h0 | ⟨blk, bo, rfl, hbl, hel⟩
    · have := HN.out; omega
    have hlt : i < l.length := by rw [← HN.out]; exact hi
    obtain ⟨f0, f1, f2, f3, g0, g1, g2, g3, hrep⟩ := hel i hlt
    have hm := List.getElem_mem hlt
    have := RT.szL_mem hm
    exact ⟨blk, bo, f0, f1, f2, f3, rfl, fun V hV => ⟨(hV.cell (p := ⟨blk, bo + i * 4, none⟩) hbl).trans g0, (hV.cell (p := ⟨blk, bo + i * 4 + 1, none⟩) hbl).trans g1, (hV.cell (p := ⟨blk, bo + i * 4 + 2, none⟩) hbl).trans g2, (hV.cell (p := ⟨blk, bo + i * 4 + 3, none⟩) hbl).trans g3⟩, _, List.getElem?_eq_getElem hlt, hrep, HIN.out _ hm, by have := HSZ.out; omega⟩
  have HOUTS : Hid (∀ i, (RT.outs (l.take i)).length ≤ 2147483648) := fun i => RT.outs_len l i hin hsz
  clear hw0 hl hel hin hsz ht htsz hT hX hR hE hI hn hone HEL HIN HSZ
  go_enter Tryz.func3, Tryz.ntmps3
  go_wp2_with fail
  rw [← HW0.out]
  refine (wakes30_walk W w0 HT.out HRR.out HEE.out HII.out HB0.out).mono ?_
  rintro e w1 ⟨rfl, hb1⟩
  have HB1 := Pl.hid hb1
  have HWB1 : Hid (Below W.heap.size W w1) := HB0.out.trans (hb1.mono HB0.out.size)
  clear hb1
  go_wp2_with fail
  refine (wvnew_walk w1).mono ?_
  rintro e w2 ⟨rfl, hw2, hp2, hb2, hz2⟩
  obtain ⟨p, hp⟩ : ∃ p, p = w1.heap.size := ⟨_, rfl⟩
  obtain ⟨q, hq⟩ : ∃ q, q = w1.heap.size + 1 := ⟨_, rfl⟩
  rw [← hq] at hw2 ⊢
  rw [← hp] at hp2 hw2
  obtain ⟨B, hBd⟩ : ∃ B, B = w2.heap.size := ⟨_, rfl⟩
  have HPE : Hid (p = w1.heap.size ∧ q = w1.heap.size + 1 ∧ B = w1.heap.size + 2 ∧ w2.heap.size = B) := ⟨hp, hq, by rw [hBd, hz2], hBd.symm⟩
  have HQB : Hid (q < B) := by have := HPE.out; show _ < _; omega
  have HQP : Hid (q ≠ p) := by have := HPE.out; show _ ≠ _; omega
  have HP2 := Pl.hid hp2
  have HW2 := Pl.hid hw2
  have HB2 := Pl.hid hb2
  clear hp hq hBd hp2 hw2 hb2 hz2
  have HWB2 : Hid (Below W.heap.size W w2) := HWB1.out.trans (HB2.out.mono HWB1.out.size)
  go_wp2_with fail
  go_loopw [8] (fun iv wr => ∃ i : Nat, iv = .int .i64 i ∧ i ≤ n ∧ Hid (Below w2.heap.size w2 wr)) (fun iv _ => n - (intOf iv).toNat)
  case atStart => exact ⟨0, rfl, Nat.zero_le _, Below.refl _ _⟩
  case round =>
    obtain ⟨i, rfl, hi, HLR⟩ := hrel
    have HWr : Hid (Below W.heap.size W wr) := HWB2.out.trans (HLR.out.mono HWB2.out.size)
    rcases Nat.lt_or_ge i n with hlt | hge
    · obtain ⟨blk, bo, f0, f1, f2, f3, rfl, hce, ti, hti, hrep, hiIn, hisz⟩ := HCE.out i hlt
      obtain ⟨e0, e1, e2, e3⟩ := hce wr HWr.out
      have HREPI := Pl.hid hrep
      clear hce hti hrep hiIn
      go_wp2_with fail
      refine (bounded_walk ti f0 f1 f2 f3 W wr HREPI.out hisz HWr.out).mono ?_
      rintro e w3 ⟨⟨b, rfl⟩, hb3⟩
      have HB3 := Pl.hid (HLR.out.trans (hb3.mono HLR.out.size))
      clear hb3 e0 e1 e2 e3
      cases b with
      | false =>
        go_wp2_with fail
        go_ret
        exact ⟨rfl, HWB2.out.trans (HB3.out.mono HWB2.out.size)⟩
      | true =>
        go_wp2_with fail
        go_roundw
        case rel => exact ⟨i + 1, by go_num, by omega, HB3⟩
        case measure => simp [intOf]; omega
    · obtain rfl : n = i := by omega
      have H0r : Hid (Below w0.heap.size w0 wr) := HB1.out.trans ((HB2.out.trans (HLR.out.mono HB2.out.size)).mono HB1.out.size)
      obtain ⟨p3, p4, p5, p6⟩ := HCC.out wr H0r.out
      go_wp2_with fail
      refine (bounded_walk t c3 c4 c5 c6 W wr HREP.out HTSZ.out HWr.out).mono ?_
      rintro e w3 ⟨⟨b, rfl⟩, hb3⟩
      have HB3 := Pl.hid (HLR.out.trans (hb3.mono HLR.out.size))
      clear hb3 p3 p4 p5 p6
      cases b with
      | false =>
        go_wp2_with fail
        go_ret
        exact ⟨rfl, HWB2.out.trans (HB3.out.mono HWB2.out.size)⟩
      | true =>
        have HW3 := Pl.hid (HW2.out.keep (w' := w3) (HB3.out.block q HW2.out.lt))
        have H13 : Hid (Below w1.heap.size w1 w3) := HB2.out.trans (HB3.out.mono HB2.out.size)
        have HP3 : Hid (Mm.PB w3 p [] Pl.fresh (fun g => g = p)) := HP2.out.below HB3.out
        have HSB3 : Hid (B ≤ w3.heap.size) := by have := HB3.out.size; have := HPE.out; show _ ≤ _; omega
        clear H0r HWr HLR
        go_wp2_with fail
        go_loopw [9, 10] (fun xv iv wr => ∃ (i : Nat) (ov ou : Value), ou = xv ∧ iv = .int .i64 i ∧ i ≤ n ∧ Hid (Mm.WV wr q p ov false) ∧ Hid (Mm.OwnB wr B ov (RT.outs (l.take i))) ∧ Hid (Mm.OwnB wr B ou (RT.outs (l.take i))) ∧ Hid (Mm.Apart ov ou) ∧ Hid (Below w1.heap.size w1 wr) ∧ Hid (wr.heap[p]? = w3.heap[p]?) ∧ Hid (B ≤ wr.heap.size)) (fun _ iv _ => n - (intOf iv).toNat)
        case atStart => exact ⟨0, .slice none 0 0, _, rfl, rfl, Nat.zero_le _, HW3.out, Mm.ownB_nil _ _, Mm.ownB_nil _ _, (fun g h => by cases h), H13.out, rfl, HSB3.out⟩
        case round =>
          obtain ⟨i, ov, ou, rfl, rfl, hi, HWV, HOV, HOU, HAP, H1R, HPR, HSB⟩ := hrel
          have HWr : Hid (Below W.heap.size W wr) := HWB1.out.trans (H1R.out.mono HWB1.out.size)
          have HL := Pl.hid (HOUTS.out i)
          rcases Nat.lt_or_ge i n with hlt | hge
          · obtain ⟨blk, bo, f0, f1, f2, f3, rfl, hce, ti, hti, hrep, hiIn, hisz⟩ := HCE.out i hlt
            have HCEI := Pl.hid hce
            have HREPI := Pl.hid hrep
            have HIIN := Pl.hid hiIn
            have HISZ := Pl.hid hisz
            have HOT : Hid (RT.outs (l.take (i + 1)) = RT.outs (l.take i) ++ ti.out) := by
              obtain ⟨h1, h2⟩ := List.getElem?_eq_some_iff.1 hti
              show _ = _
              rw [RT.outs_take l i h1, h2]
            obtain ⟨e0, e1, e2, e3⟩ := HCEI.out wr HWr.out
            have hone := hrep.one
            have u0 := hone f0 (by simp)
            have u1 := hone f1 (by simp)
            have u2 := hone f2 (by simp)
            have u3 := hone f3 (by simp)
            clear hce hti hrep hiIn hisz hone
            go_wp2_with fail
            refine (encode_walk W HT.out ti HIIN.out HISZ.out f0 f1 f2 f3 HREPI.out wr HWr.out).mono ?_
            rintro e w4 ⟨v4, rfl, ho4, hb4⟩
            have HO4 := Pl.hid ho4
            have HB4 := Pl.hid hb4
            have HWr4 : Hid (Below W.heap.size W w4) := HWr.out.trans (hb4.mono HWr.out.size)
            have HWV4 := Pl.hid (HWV.out.keep (w' := w4) (hb4.block q HWV.out.lt))
            have HOV4 := Pl.hid (HOV.out.kept hb4)
            have HOU4 := Pl.hid (HOU.out.kept hb4)
            have HSB4 : Hid (B ≤ w4.heap.size) := Nat.le_trans HSB.out hb4.size
            clear ho4 hb4 e0 e1 e2 e3
            obtain ⟨e0, e1, e2, e3⟩ := HCEI.out w4 HWr4.out
            obtain ⟨C, hC⟩ : ∃ C, C = ti.code := ⟨_, rfl⟩
            have hs := wvsend_walk W HT.out ti HIIN.out HISZ.out f0 f1 f2 f3 HREPI.out B q p ov (RT.outs (l.take i)) w4 HWr4.out HWV4.out HOV4.out HSB4.out HQB.out (by have := HL.out; omega)
            rw [← hC] at hs ⊢
            have HS := Pl.hid hs
            clear hs hC
            go_wp2_with fail
            refine HS.out.mono ?_
            rintro e w5 ⟨rfl, ov5, hw5, ho5, hc5⟩
            have HWV5 := Pl.hid hw5
            have HOV5 : Hid (Mm.OwnB w5 B ov5 (RT.outs (l.take (i + 1)))) := by rw [HOT.out]; exact ho5
            have HC5 := Pl.hid hc5
            have HOU5 : Hid (Mm.OwnB w5 B ou (RT.outs (l.take i))) := HOU4.out.off hc5 (fun g hg hf => by
              rcases hf with rfl | hf
              · have := (HOU4.out.lt _ hg).1; have := HQB.out; omega
              · exact HAP.out g hf hg)
            have HO45 : Hid (Mm.OwnB w5 wr.heap.size v4 ti.out) := HO4.out.off hc5 (fun g hg hf => by
              have h1 := (HO4.out.lt g hg).1
              rcases hf with rfl | hf
              · have := HWV.out.lt; omega
              · have := (HOV.out.lt g hf).2; omega)
            have HAP5 : Hid (Mm.Apart ov5 ou) := fun g hg hu => by
              rcases hc5.foot g (.inr hg) with hf | hf
              · rcases hf with rfl | hf
                · have := (HOU4.out.lt _ hu).1; have := HQB.out; omega
                · exact HAP.out g hf hu
              · have := (HOU4.out.lt g hu).2; omega
            have hz5 : B ≤ w5.heap.size := Nat.le_trans HSB4.out hc5.size
            have hll : (RT.outs (l.take i)).length + ti.out.length ≤ 140737488355328 := by have := HL.out; have := ti.out_le; omega
            clear hw5 ho5 hc5 e0 e1 e2 e3
            go_wp2_with (at_builtin; refine Mm.wp_appW w5 rfl _ _ (by rfl) B ou (RT.outs (l.take i)) (by rfl) HOU5.out _ ti.out (by rfl) HO45.out.bs hll hz5 ?_; intro v6 w6 ho6 hg6 hat6; have HO6 := Pl.hid ho6; have HG6 := Pl.hid hg6; have HAT6 := Pl.hid hat6; clear ho6 hg6 hat6)
            go_roundw
            case rel =>
              refine ⟨i + 1, ov5, v6, rfl, by go_num, by omega, ?_, ?_, ?_, ?_, ?_, ?_, ?_⟩
              · exact HWV5.out.keep (HG6.out.block q HWV5.out.lt (fun e => by have := (HOU5.out.lt q e.symm).1; have := HQB.out; omega))
              · exact HOV5.out.byGrown HG6.out HAP5.out
              · rw [HOT.out]; exact HO6.out
              · intro g hg hu
                rcases HAT6.out with h | h
                · exact HAP5.out g hg (h.symm.trans hu)
                · have h' : some w5.heap.size = some g := h.symm.trans hu
                  injection h' with h'
                  have := (HOV5.out.lt g hg).2
                  omega
              · have hpe := HPE.out
                refine (H1R.out.trans (HB4.out.mono H1R.out.size)).trans ?_
                have h45 := HC5.out.under0 (B := w1.heap.size) (W := w4) (w := w4) (Below.size (H1R.out.trans (HB4.out.mono H1R.out.size))) (Below.refl _ _) (fun g hg => by
                  rcases hg with rfl | hg
                  · omega
                  · have := (HOV4.out.lt g hg).1; omega)
                exact h45.grown HG6.out (Nat.le_trans (by omega) hz5) (fun k hk => by have := (HOU5.out.lt k hk).1; omega)
              · have hpe := HPE.out
                have hpl : p < wr.heap.size := by have := HSB.out; omega
                have h4 := HB4.out.block p hpl
                have h5 := HC5.out.block p (Nat.lt_of_lt_of_le hpl HB4.out.size) (fun hf => by
                  rcases hf with h | h
                  · exact HQP.out h.symm
                  · have := (HOV4.out.lt p h).1; omega)
                have h6 := HG6.out.block p (Nat.lt_of_lt_of_le (Nat.lt_of_lt_of_le hpl HB4.out.size) HC5.out.size) (fun e => by have := (HOU5.out.lt p e.symm).1; omega)
                exact h6.trans (h5.trans (h4.trans HPR.out))
              · exact Nat.le_trans hz5 HG6.out.size
            case measure => simp [intOf]; omega
          · obtain rfl : n = i := by omega
            have HFULL : Hid (l.take n = l) := by show _ = _; rw [HN.out, List.take_length]
            have HPB : Hid (Mm.PB wr p [] Pl.fresh (fun g => g = p)) := HP3.out.keepG (fun g _ hg => by have hg' : g = p := hg; rw [hg']; exact HPR.out)
            rw [HFULL.out] at HOV HOU HL
            obtain ⟨O, hO⟩ : ∃ O, O = RT.outs l := ⟨_, rfl⟩
            rw [← hO] at HOV HOU HL
            clear hO HP3 HPR
            have hol : O.length ≤ 1099511627776 := by have := HL.out; omega
            go_wp2_with fail
            refine (wvoutput_walk q p false ov B O wr HWV.out HOV.out hol).mono ?_
            rintro e w4 ⟨v4, rfl, ho4, hb4⟩
            have HO4 := Pl.hid ho4
            have HB4 := Pl.hid hb4
            have HOU4 := Pl.hid (HOU.out.kept hb4)
            clear ho4 hb4
            go_wp2_with fail
            refine (sameBytes_eq v4 ou O w4 (by omega) HO4.out.bytesV HOU4.out.bytesV).mono ?_
            rintro e w5 ⟨rfl, hb5⟩
            have HB5 : Hid (Below wr.heap.size wr w5) := HB4.out.trans (hb5.mono HB4.out.size)
            have HWV5 := Pl.hid (HWV.out.keep (w' := w5) (HB5.out.block q HWV.out.lt))
            have HOV5 := Pl.hid (HOV.out.kept HB5.out)
            have HOU5 := Pl.hid (HOU.out.kept HB5.out)
            have HPB5 := Pl.hid (HPB.out.below HB5.out)
            have H15 : Hid (Below w1.heap.size w1 w5) := H1R.out.trans (HB5.out.mono H1R.out.size)
            have HSB5 : Hid (B ≤ w5.heap.size) := Nat.le_trans HSB.out HB5.out.size
            clear hb5 HO4 HB4 HOU4 HWV HOV HOU HPB
            obtain ⟨wz, hwz⟩ : ∃ wz, wz = w5.alloc (.cells (Pl.bytesV Pl.badL).toArray 5 (11, 12)) := ⟨_, rfl⟩
            have HCV : Hid ((convert 23 23 (.slice (some ⟨w5.heap.size, 0, none⟩) 11 11)).run Tryz.prog (w5.alloc (.cells #[.int .u8 80, .int .u8 73, .int .u8 78, .int .u8 71, .int .u8 13, .int .u8 10, .int .u8 42, .int .u8 49, .int .u8 13, .int .u8 10, .int .u8 43] 5)) = .ok (.slice (some ⟨w5.heap.size, 0, none⟩) 11 11) wz) := by
              show _ = _
              rw [hwz]
              exact Lib.run_convert_bytes_const w5 _ _ _ 11 11 Tryz.underlying23 Tryz.underlying5
            have HBS : Hid (Mm.Bs wz (.slice (some ⟨w5.heap.size, 0, none⟩) 11 11) Pl.badL) := by rw [hwz]; exact Mm.bs_alloc w5 Pl.badL _ 11 rfl
            have HA : Hid (Below w5.heap.size w5 wz) := by rw [hwz]; exact (Below.refl _ _).alloc (Nat.le_refl _) _
            have H1Z : Hid (Below w1.heap.size w1 wz) := H15.out.trans (HA.out.mono H15.out.size)
            have HWZ : Hid (Below W.heap.size W wz) := HWB1.out.trans (H1Z.out.mono HWB1.out.size)
            have HPZ : Hid (Mm.PB wz p [] Pl.fresh (fun g => g = p)) := HPB5.out.below HA.out
            have HWVZ := Pl.hid (HWV5.out.keep (w' := wz) (HA.out.block q HWV5.out.lt))
            have HOVZ := Pl.hid (HOV5.out.kept HA.out)
            have HOUZ := Pl.hid (HOU5.out.kept HA.out)
            have hcv := HCV.out
            clear hwz HOV5 HOU5
            obtain ⟨st, buf, hfeed, hready, herr⟩ := Pl.bad_feed
            have HERR := Pl.hid herr
            have HF := Pl.hid (wvfeed_walk q p _ Pl.badL [] Pl.fresh _ W wz ov HWVZ.out (fun h => HQP.out h) (by have := HPE.out; have := HWB1.out.size; omega) HRR.out HEE.out HII.out HWZ.out (by decide) (by decide) HBS.out HPZ.out rfl Pl.okP_fresh 0 (by unfold Pl.bnd Pl.fresh; simp) (by decide))
            rw [hfeed] at HF
            have HREADY := Pl.hid hready
            clear hfeed hready herr
            go_wp2_with fail
            refine HF.out.mono ?_
            rintro e w6 ⟨rfl, hw6, G6, hp6, hc6⟩
            have hpn := hp6.asked
            (try simp only at hpn)
            rw [HREADY.out] at hpn
            obtain ⟨g, o, hpc, hne, hrows⟩ := hpn.cells
            obtain ⟨vi, hci, hoi⟩ := hrows 0 _ rfl
            obtain ⟨va, vc, rfl, _⟩ := hoi.val
            obtain ⟨nb, hnb⟩ : ∃ nb, nb = buf.length := ⟨_, rfl⟩
            have hpe := HPE.out
            have H16 : Hid (Below w1.heap.size w1 w6) := hc6.under0 (Nat.le_refl _) H1Z.out (fun g hg => by have hg' : g = p := hg; omega)
            have HOV6 : Hid (Mm.OwnB w6 B ov O) := HOVZ.out.off hc6 (fun g hg hf => by have hf' : g = p := hf; have := (HOVZ.out.lt g hg).1; omega)
            have HOU6 : Hid (Mm.OwnB w6 B ou O) := HOUZ.out.off hc6 (fun g hg hf => by have hf' : g = p := hf; have := (HOUZ.out.lt g hg).1; omega)
            have HSB6 : Hid (B ≤ w6.heap.size) := Nat.le_trans (Nat.le_trans HSB5.out HA.out.size) hc6.size
            have HPC : Hid (Mm.PNc w6 p g o 1 st nb) := by rw [hnb]; exact hpc
            have HCI := Pl.hid hci
            have HOI := Pl.hid hoi
            have HW6 := Pl.hid hw6
            clear hp6 hc6 hcv hpc hne hrows hci hoi hw6 hpn hnb hpe HF HOVZ HOUZ HPZ
            go_wp2_with fail
            refine (wvnext_c q p g o 0 va _ vc st nb w6 ov HW6.out HQP.out HPC.out HCI.out).mono ?_
            rintro e w7 ⟨rfl, hw7, hp7, hg7⟩
            have hpe := HPE.out
            have HOI7 := Pl.hid (HOI.out.st hg7)
            have HW7 := Pl.hid hw7
            have HPC7 := Pl.hid hp7
            have H17 : Hid (Below w1.heap.size w1 w7) := H16.out.grown hg7 H16.out.size (fun k hk => by injection hk with hk; omega)
            have HOV7 : Hid (Mm.OwnB w7 B ov O) := HOV6.out.keep fun g hg => hg7.block g (HOV6.out.lt g hg).2 (fun e => by injection e with e; have := (HOV6.out.lt g hg).1; omega)
            have HOU7 : Hid (Mm.OwnB w7 B ou O) := HOU6.out.keep fun g hg => hg7.block g (HOU6.out.lt g hg).2 (fun e => by injection e with e; have := (HOU6.out.lt g hg).1; omega)
            have HSB7 : Hid (B ≤ w7.heap.size) := Nat.le_trans HSB6.out hg7.size
            clear hw7 hp7 hg7 hpe HOV6 HOU6
            go_wp2_with fail
            refine (same30_eq _ _ [[80, 73, 78, 71]] _ (by decide) (HOI7.out.below ((Below.refl _ _).alloc (Nat.le_refl _) _)).rowT (Mm.rowT_alloc w7 [[80, 73, 78, 71]] 1 rfl)).mono ?_
            rintro e w8 ⟨rfl, hb8⟩
            have HB8 : Hid (Below w7.heap.size w7 w8) := ((Below.refl _ _).alloc (Nat.le_refl _) _).trans (hb8.mono (by simp))
            have HWV8 := Pl.hid (HW7.out.keep (w' := w8) (HB8.out.block q HW7.out.lt))
            clear hb8
            go_wp2_with fail
            refine (wvclosed_walk q p ov false w8 HWV8.out).mono ?_
            rintro e w8' ⟨rfl, rfl⟩
            go_wp2_with fail
            refine (mk_simple ⟨#[80, 79, 78, 71]⟩ w8).mono ?_
            rintro e w9 ⟨rfl, hb9⟩
            have HB9 : Hid (Below w7.heap.size w7 w9) := HB8.out.trans (hb9.mono HB8.out.size)
            have HWV9 := Pl.hid (HW7.out.keep (w' := w9) (HB9.out.block q HW7.out.lt))
            have HPC9 : Hid (Mm.PNc w9 p g (o + 1) 0 st nb) := HPC7.out.keep (HB9.out.block p (by have := HPE.out; have := HSB7.out; omega))
            have HOV9 := Pl.hid (HOV7.out.kept HB9.out)
            have HOU9 := Pl.hid (HOU7.out.kept HB9.out)
            have H19 : Hid (Below w1.heap.size w1 w9) := H17.out.trans (HB9.out.mono H17.out.size)
            have HSB9 : Hid (B ≤ w9.heap.size) := Nat.le_trans HSB7.out HB9.out.size
            have HWW9 : Hid (Below W.heap.size W w9) := HWB1.out.trans (H19.out.mono HWB1.out.size)
            have hs := wvsend_walk W HT.out (RT.mk 1 ⟨#[80, 79, 78, 71]⟩ 0 []) (RT.leaf_in _ _) (by rw [RT.sz_mk]; decide) _ _ _ _ (Mm.RepY.leaf W 1 _ 0) B q p ov O w9 HWW9.out HWV9.out HOV9.out HSB9.out HQB.out hol
            rw [RT.pong_t.1, RT.pong_t.2] at hs
            have HS := Pl.hid hs
            clear hb9 hs HWV8 HB8 HOV7 HOU7 HPC7 HW7
            go_wp2_with fail
            refine HS.out.mono ?_
            rintro e w10 ⟨rfl, ov10, hw10, ho10, hc10⟩
            have hpe := HPE.out
            have HWV10 := Pl.hid hw10
            have HOV10 := Pl.hid ho10
            have HOU10 : Hid (Mm.OwnB w10 B ou O) := HOU9.out.off hc10 (fun g hg hf => by
              rcases hf with rfl | hf
              · have := (HOU9.out.lt _ hg).1; have := HQB.out; omega
              · exact HAP.out g hf hg)
            have HAP10 : Hid (Mm.Apart ov10 ou) := fun g hg hu => by
              rcases hc10.foot g (.inr hg) with hf | hf
              · rcases hf with rfl | hf
                · have := (HOU9.out.lt _ hu).1; have := HQB.out; omega
                · exact HAP.out g hf hu
              · have := (HOU9.out.lt g hu).2; omega
            have HPC10 : Hid (Mm.PNc w10 p g (o + 1) 0 st nb) := HPC9.out.keep (hc10.block p (by have := HSB9.out; omega) (fun hf => by
              rcases hf with h | h
              · exact HQP.out h.symm
              · have := (HOV9.out.lt p h).1; omega))
            have H110 : Hid (Below w1.heap.size w1 w10) := hc10.under0 (Nat.le_refl _) H19.out (fun g hg => by
              rcases hg with rfl | hg
              · omega
              · have := (HOV9.out.lt g hg).1; omega)
            have HSB10 : Hid (B ≤ w10.heap.size) := Nat.le_trans HSB9.out hc10.size
            have HWW10 : Hid (Below W.heap.size W w10) := HWB1.out.trans (H110.out.mono HWB1.out.size)
            have HNB := Pl.hid (wvnext_bad W HT.out HX.out B q p g (o + 1) st nb ov10 (O ++ Pl.pongL) w10 HWW10.out HWV10.out HPC10.out HERR.out HOV10.out HSB10.out HQB.out (by rw [List.length_append]; have : Pl.pongL.length = 7 := rfl; have := HL.out; omega))
            clear hw10 ho10 hc10 hpe HS
            go_wp2_with fail
            refine HNB.out.mono ?_
            rintro e w11 ⟨rfl, ov11, hw11, ho11, hc11⟩
            have hpe := HPE.out
            have HWV11 := Pl.hid hw11
            have HOV11 := Pl.hid ho11
            have HOU11 : Hid (Mm.OwnB w11 B ou O) := HOU10.out.off hc11 (fun g hg hf => by
              rcases hf with rfl | hf
              · have := (HOU10.out.lt _ hg).1; have := HQB.out; omega
              · exact HAP10.out g hf hg)
            have HAP11 : Hid (Mm.Apart ov11 ou) := fun g hg hu => by
              rcases hc11.foot g (.inr hg) with hf | hf
              · rcases hf with rfl | hf
                · have := (HOU10.out.lt _ hu).1; have := HQB.out; omega
                · exact HAP10.out g hf hu
              · have := (HOU10.out.lt g hu).2; omega
            have H111 : Hid (Below w1.heap.size w1 w11) := hc11.under0 (Nat.le_refl _) H110.out (fun g hg => by
              rcases hg with rfl | hg
              · omega
              · have := (HOV10.out.lt g hg).1; omega)
            have hz11 : B ≤ w11.heap.size := Nat.le_trans HSB10.out hc11.size
            have hll11 : O.length + (⟨#[43, 80, 79, 78, 71, 13, 10, 45, 69, 82, 82, 32, 116, 104, 105, 115, 32, 105, 115, 32, 110, 111, 32, 114, 101, 113, 117, 101, 115, 116, 13, 10]⟩ : ByteArray).size ≤ 140737488355328 := by
              have : (⟨#[43, 80, 79, 78, 71, 13, 10, 45, 69, 82, 82, 32, 116, 104, 105, 115, 32, 105, 115, 32, 110, 111, 32, 114, 101, 113, 117, 101, 115, 116, 13, 10]⟩ : ByteArray).size = 32 := rfl
              omega
            clear hw11 ho11 hc11 hpe HNB
            go_wp2_with (at_builtin; refine Mm.wp_appSG w11 rfl _ _ (by rfl) B ou O _ (by rfl) (by rfl) HOU11.out hll11 hz11 ?_; intro v12 w12 ho12 hg12; have HO12 := Pl.hid ho12; have HG12 := Pl.hid hg12; have HWV12 := Pl.hid (HWV11.out.keep (w' := w12) (hg12.block q HWV11.out.lt (fun e => by have := (HOU11.out.lt q e.symm).1; have := HQB.out; omega))); clear ho12 hg12)
            have hpe := HPE.out
            have HOU12 : Hid (Mm.OwnB w12 B v12 (O ++ Pl.pongL ++ Pl.txL)) := by
              have h := HO12.out
              rw [show Pl.L (⟨#[43, 80, 79, 78, 71, 13, 10, 45, 69, 82, 82, 32, 116, 104, 105, 115, 32, 105, 115, 32, 110, 111, 32, 114, 101, 113, 117, 101, 115, 116, 13, 10]⟩ : ByteArray) = Pl.pongL ++ Pl.txL by decide +kernel, ← List.append_assoc] at h
              exact h
            have HOV12 : Hid (Mm.OwnB w12 B ov11 (O ++ Pl.pongL ++ Pl.txL)) := HOV11.out.byGrown HG12.out HAP11.out
            have H112 : Hid (Below w1.heap.size w1 w12) := H111.out.grown HG12.out H111.out.size (fun k hk => by have := (HOU11.out.lt k hk).1; omega)
            have HLF : Hid ((O ++ Pl.pongL ++ Pl.txL).length ≤ 1099511627776) := by
              show _ ≤ _
              rw [List.length_append, List.length_append, show Pl.pongL.length = 7 from rfl, show Pl.txL.length = 25 from rfl]
              have := HL.out
              omega
            clear hpe HO12 HAP11 HAP10 HAP
            refine (wvbroken_walk q p ov11 true w12 HWV12.out).mono ?_
            rintro e w12' ⟨rfl, rfl⟩
            go_wp2_with fail
            refine (wvclosed_walk q p ov11 true w12 HWV12.out).mono ?_
            rintro e w12' ⟨rfl, rfl⟩
            go_wp2_with fail
            refine (wvoutput_walk q p true ov11 B _ w12 HWV12.out HOV12.out HLF.out).mono ?_
            rintro e w13 ⟨v13, rfl, ho13, hb13⟩
            have HO13 := Pl.hid ho13
            have HB13 := Pl.hid hb13
            have HOU13 := Pl.hid (HOU12.out.kept hb13)
            clear ho13 hb13
            go_wp2_with fail
            refine (sameBytes_eq v13 v12 _ w13 (by have := HLF.out; omega) HO13.out.bytesV HOU13.out.bytesV).mono ?_
            rintro e w14 ⟨rfl, hb14⟩
            have HB14 : Hid (Below w12.heap.size w12 w14) := HB13.out.trans (hb14.mono HB13.out.size)
            have HWV14 := Pl.hid (HWV12.out.keep (w' := w14) (HB14.out.block q HWV12.out.lt))
            have HOV14 := Pl.hid (HOV12.out.kept HB14.out)
            have HOU14 := Pl.hid (HOU12.out.kept HB14.out)
            have H114 : Hid (Below w1.heap.size w1 w14) := H112.out.trans (HB14.out.mono H112.out.size)
            obtain ⟨p3, p4, p5, p6⟩ := HCC.out w14 (HB1.out.trans (H114.out.mono HB1.out.size))
            clear hb14 HO13 HB13 HOU13
            go_wp2_with fail
            refine (wvnext_closed q p ov11 w14 HWV14.out).mono ?_
            rintro e w14' ⟨rfl, rfl⟩
            go_wp2_with fail
            refine (wvfeed_closed q p _ ov11 w14 HWV14.out).mono ?_
            rintro e w14' ⟨rfl, rfl⟩
            go_wp2_with fail
            refine (wvsend_closed q p ov11 c3 c4 c5 c6 w14 HWV14.out).mono ?_
            rintro e w15 ⟨rfl, hb15⟩
            have HB15 := Pl.hid hb15
            have HWV15 := Pl.hid (HWV14.out.keep (w' := w15) (hb15.block q HWV14.out.lt))
            have HOV15 := Pl.hid (HOV14.out.kept hb15)
            have HOU15 := Pl.hid (HOU14.out.kept hb15)
            clear hb15 p3 p4 p5 p6
            go_wp2_with fail
            refine (wvoutput_walk q p true ov11 B _ w15 HWV15.out HOV15.out HLF.out).mono ?_
            rintro e w16 ⟨v16, rfl, ho16, hb16⟩
            have HO16 := Pl.hid ho16
            have HB16 := Pl.hid (HB15.out.trans (hb16.mono HB15.out.size))
            have HOU16 := Pl.hid (HOU15.out.kept hb16)
            clear ho16 hb16
            go_wp2_with fail
            refine (sameBytes_eq v16 v12 _ w16 (by have := HLF.out; omega) HO16.out.bytesV HOU16.out.bytesV).mono ?_
            rintro e w17 ⟨rfl, hb17⟩
            have HB17 := Pl.hid (HB16.out.trans (hb17.mono HB16.out.size))
            clear hb17
            go_wp2_with fail
            go_ret
            exact ⟨rfl, HWB1.out.trans ((H114.out.trans (HB17.out.mono H114.out.size)).mono HWB1.out.size)⟩
end Go.Proofs.YtgpbgldnaongnaaGreatDoor

namespace Go.Proofs.YtgpbgldnaongnaaGreatDoor
open Go.RowKit
set_option maxRecDepth 20000

namespace Pl
theorem tok_le {c : UInt8} {r : List UInt8} {p : List UInt8 × Nat} (hb : blankB c = false) (h : tok (c :: r) = some p) : 1 ≤ p.2 := by
  unfold tok at h
  split at h
  · cases hq : dbl (c :: r).length (c :: r).tail with
    | none => rw [hq] at h; cases h
    | some q => rw [hq] at h; injection h with h; subst h; exact Nat.succ_le_succ (Nat.zero_le _)
  · split at h
    · cases hq : sgl (c :: r).length (c :: r).tail with
      | none => rw [hq] at h; cases h
      | some q => rw [hq] at h; injection h with h; subst h; exact Nat.succ_le_succ (Nat.zero_le _)
    · injection h with h
      subst h
      simp [hb]
theorem inl_bad {f : Nat} {l : List UInt8} {acc : List (List UInt8)} (h : (inl f l acc).1 ≠ 0) (hf : l.length < f) :
    ∃ g, f = g + 1 ∧ l.dropWhile blankB ≠ [] ∧ (acc.length = 1024 ∨ acc.length ≠ 1024 ∧ (tok (l.dropWhile blankB) = none ∨ ∃ p : List UInt8 × Nat, tok (l.dropWhile blankB) = some p ∧
      (((l.dropWhile blankB).drop p.2).head?.any (fun d => !blankB d) = true ∨ ((l.dropWhile blankB).drop p.2).head?.any (fun d => !blankB d) = false ∧ (inl g ((l.dropWhile blankB).drop p.2) (acc ++ [p.1])).1 ≠ 0 ∧ ((l.dropWhile blankB).drop p.2).length < g))) := by
  cases f with
  | zero => omega
  | succ f =>
    refine ⟨f, rfl, ?_⟩
    unfold inl at h
    have hle : (l.dropWhile blankB).length ≤ l.length := (List.dropWhile_sublist _).length_le
    cases hd : l.dropWhile blankB with
    | nil => rw [hd] at h; exact absurd rfl h
    | cons c r =>
      have hbc : blankB c = false := by
        have := List.head?_dropWhile_not blankB l
        rw [hd] at this
        simpa using this
      rw [hd] at h hle
      simp only at h
      refine ⟨by simp, ?_⟩
      by_cases h1 : acc.length = 1024
      · exact .inl h1
      · rw [if_neg h1] at h
        refine .inr ⟨h1, ?_⟩
        cases ht : tok (c :: r) with
        | none => exact .inl rfl
        | some p =>
          refine .inr ⟨p, rfl, ?_⟩
          rw [ht] at h
          simp only at h
          cases hb : ((c :: r).drop p.2).head?.any (fun d => !blankB d) with
          | true => exact .inl rfl
          | false =>
            rw [hb] at h
            have h1 := tok_le hbc ht
            refine .inr ⟨rfl, by simpa using h, ?_⟩
            rw [List.length_drop]
            have : (c :: r).length = r.length + 1 := rfl
            omega
theorem tok_34n {s : ByteArray} (hh : (L s).head? = some 34) (h : tok (L s) = none) : qN (dbO s) = -1 := by
  unfold tok at h
  rw [if_pos hh, L_length] at h
  have e : dbO s = dbl s.size (L s).tail := by
    unfold dbO
    rw [List.drop_one]
  rw [e]
  cases hq : dbl s.size (L s).tail with
  | none => rfl
  | some q => rw [hq] at h; cases h
theorem tok_39n {s : ByteArray} (hh : (L s).head? = some 39) (h : tok (L s) = none) : qN (sgO s) = -1 := by
  unfold tok at h
  rw [if_neg (by rw [hh]; decide), if_pos hh, L_length] at h
  have e : sgO s = sgl s.size (L s).tail := by
    unfold sgO
    rw [List.drop_one]
  rw [e]
  cases hq : sgl s.size (L s).tail with
  | none => rfl
  | some q => rw [hq] at h; cases h
theorem tok_plainn {l : List UInt8} (h34 : l.head? ≠ some 34) (h39 : l.head? ≠ some 39) : tok l ≠ none := by
  unfold tok
  rw [if_neg h34, if_neg h39]
  simp
theorem head_nb {s : ByteArray} {n : Nat} (h : n < s.size) (hb : ((L s).drop n).head?.any (fun d => !blankB d) = true) : blankB (s[n]'h) = false := by
  rw [drop_get s n h] at hb
  simpa using hb
theorem head_end {s : ByteArray} {n : Nat} (h : s.size ≤ n) : ((L s).drop n).head?.any (fun d => !blankB d) = false := by
  rw [drop_end s n h]
  rfl
end Pl

set_option maxHeartbeats 8000000 in
theorem inline_bad (s : ByteArray) (f0 : Nat) (W w : World) (hR : Mm.RErr W) (hW : Below W.heap.size W w) (hs : s.size ≤ 4096) (hf : s.size < f0) (hin : (Pl.inl f0 (Pl.L s) []).1 ≠ 0) :
    Calls Tryz.prog 52 #[.string s] w fun e w' => (∃ T x, e = .returned (.tuple #[.slice none 0 0, .iface T x])) ∧ Below w.heap.size w w' := by
  have HIN := Pl.hid hin
  have HR := Pl.hid hR
  have HW := Pl.hid hW
  have HWs := Pl.hid hW.size
  clear hin hR hW
  go_enter Tryz.func52, Tryz.ntmps52
  go_wp2_with fail
  go_loopw [0, 4] (fun lv wv wr => ∃ (l : ByteArray) (f : Nat) (acc : List (List UInt8)), lv = .string l ∧ l.size ≤ 4096 ∧ Hid (Mm.OwnS wr w.heap.size wv acc) ∧ Hid ((Pl.inl f (Pl.L l) acc).1 ≠ 0) ∧ Hid (l.size < f) ∧ acc.length ≤ 1024 ∧ Hid (Below w.heap.size w wr)) (fun lv _ _ => Pl.strSz lv)
  case atStart => exact ⟨s, f0, [], rfl, hs, Mm.ownS_nil _ _, HIN, hf, by decide, Below.refl _ _⟩
  case round =>
    obtain ⟨l, f, acc, rfl, hl, HO, HQ, HLF, hacc, HB⟩ := hrel
    go_wp2_with fail
    go_loop [0] (fun mv => ∃ m : ByteArray, mv = .string m ∧ m.size ≤ l.size ∧ Hid ((Pl.L m).dropWhile Pl.blankB = (Pl.L l).dropWhile Pl.blankB)) (fun mv => Pl.strSz mv)
    case atStart => exact ⟨l, rfl, Nat.le_refl _, rfl⟩
    case round =>
      obtain ⟨m, rfl, hm, HM⟩ := hrel
      obtain ⟨g, hfg, hne0, hcases⟩ := Pl.inl_bad HQ.out (by rw [Pl.L_length]; exact HLF.out)
      rw [← HM.out] at hne0 hcases
      rcases Nat.eq_zero_or_pos m.size with h0 | hpos
      · obtain rfl : m = ⟨#[]⟩ := Pl.ba_ext (List.eq_nil_of_length_eq_zero (by rw [Pl.L_length]; exact h0))
        exact absurd rfl hne0
      · have he := Pl.toL_full hpos
        cases hb : Pl.blankB (m[0]'hpos) with
        | true =>
          have HM2 := Pl.hid ((Pl.drop_blank hpos hb).trans HM.out)
          have HZ := Pl.hid (Pl.ext_size m 1)
          clear hcases hne0 hfg
          go_wp2_with (go_at_call 71; refine (blank_byte _ _).mono ?_; rw [hb]; rintro e w' ⟨rfl, rfl⟩)
          go_round
          case rel => exact ⟨_, rfl, by rw [HZ.out]; omega, HM2⟩
          case measure => simp only [Pl.strSz]; rw [HZ.out]; omega
        | false =>
          rw [Pl.drop_word hpos hb] at hcases
          have HWr : Hid (Below W.heap.size W wr) := HW.out.trans (HB.out.mono HWs.out)
          obtain ⟨av, cv, rfl, hval⟩ := HO.out.val
          have HVal := Pl.hid hval
          have HFG := Pl.hid hfg
          have HH := Pl.hid (Pl.head_L m hpos)
          clear hval hne0 hfg
          rcases hcases with h1024 | ⟨h1024, hcases⟩
          · have hq1 : ((acc.length : Int) == 1024) = true := beq_iff_eq.2 (by omega)
            obtain ⟨TC, xc, hxc⟩ := HWr.out |> (fun h => (HR.out.on h).here 4 (by simp))
            clear h1024
            go_wp2_with (go_at_call 71; refine (blank_byte _ _).mono ?_; rw [hb]; rintro e w' ⟨rfl, rfl⟩)
            go_quiet (fail)
            go_wp2_with fail
            go_ret2
            exact ⟨⟨_, _, rfl⟩, HB.out.trans (Mm.below_drewN _ _)⟩
          · have hne : ((acc.length : Int) == 1024) = false := beq_eq_false_iff_ne.2 (by omega)
            have hacc' : acc.length < 1024 := by omega
            have HCS := Pl.hid hcases
            clear hcases h1024 hacc
            by_cases h34 : (m[0]'hpos).toNat = 34
            · have e34 : (((m[0]'hpos).toNat : Int) == 34) = true := beq_iff_eq.2 (by omega)
              rcases HCS.out with hnone | ⟨⟨pw, n⟩, h3, hrest⟩
              · have HT := Pl.hid (Pl.tok_34n (s := m) (by rw [HH.out]; congr 1; exact Pl.u8_is (d := 34) h34 rfl) hnone)
                obtain ⟨TQ, xq, hxq⟩ := (HR.out.on HWr.out).here 5 (by simp)
                clear hnone h34 HCS
                go_wp2_with (go_at_call 71; refine (blank_byte _ _).mono ?_; rw [hb]; rintro e w' ⟨rfl, rfl⟩)
                refine (double_walk m _ (by omega)).mono ?_
                rw [HT.out]
                rintro e w1 ⟨rfl, hb1⟩
                have HB1 := Pl.hid (HB.out.trans (hb1.mono HB.out.size))
                obtain ⟨TQ, xq, hxq⟩ := (HR.out.on (HWr.out.trans (hb1.mono HWr.out.size))).here 5 (by simp)
                clear hb1
                go_wp2_with fail
                go_quiet (fail)
                go_wp2_with fail
                go_ret2
                exact ⟨⟨_, _, rfl⟩, HB1.out.trans (Mm.below_drewN _ _)⟩
              · have HT := Pl.hid (Pl.tok_34 (s := m) (by rw [HH.out]; congr 1; exact Pl.u8_is (d := 34) h34 rfl) h3)
                have hn1 : 1 ≤ n := HT.out.2.2.1
                have hn2 : n ≤ m.size := HT.out.2.2.2
                have HWp : Hid (Pl.L (Pl.B pw) = pw) := Pl.L_B _
                have HRS := Pl.hid hrest
                clear h34 h3 hrest HCS
                go_wp2_with (go_at_call 71; refine (blank_byte _ _).mono ?_; rw [hb]; rintro e w' ⟨rfl, rfl⟩)
                refine (double_walk m _ (by omega)).mono ?_
                rw [HT.out.1, HT.out.2.1]
                rintro e w1 ⟨rfl, hb1⟩
                have HO1 := Pl.hid (HO.out.below hb1)
                have HB1 := Pl.hid (HB.out.trans (hb1.mono HB.out.size))
                obtain ⟨TQ, xq, hxq⟩ := (HR.out.on (HWr.out.trans (hb1.mono HWr.out.size))).here 5 (by simp)
                clear hb1
                rcases Nat.lt_or_ge n m.size with hnl | hnl
                · rcases HRS.out with hnb | ⟨h4, h5, h6⟩
                  · have hbn := Pl.head_nb hnl hnb
                    clear hnb
                    go_wp2_with (go_at_call 71; refine (blank_byte _ _).mono ?_; rw [hbn]; rintro e w' ⟨rfl, rfl⟩)
                    go_quiet (fail)
                    go_wp2_with fail
                    go_ret2
                    exact ⟨⟨_, _, rfl⟩, HB1.out.trans (Mm.below_drewN _ _)⟩
                  · have hbn := Pl.head_drop hnl h4
                    have H5 := Pl.hid h5
                    have H6 := Pl.hid h6
                    clear h4 h5 h6 hxq
                    go_wp2_with (first | (go_at_call 71; refine (blank_byte _ _).mono ?_; rw [hbn]; rintro e w' ⟨rfl, rfl⟩) | (at_builtin; refine Mm.wp_app1S _ rfl _ _ (by rfl) w.heap.size _ acc (Pl.B pw) (by rfl) (by rfl) HO1.out (by omega) HB1.out.size ?_; intro v2 w2 hown2 hb2))
                    have HO2 := Pl.hid hown2
                    have HB2 := Pl.hid (HB1.out.trans hb2)
                    clear hown2 hb2
                    go_roundw
                    case rel => exact ⟨_, g, acc ++ [Pl.L (Pl.B pw)], rfl, by rw [Pl.ext_size]; omega, HO2, (by show _ ≠ _; rw [HWp.out, Pl.ext_drop]; exact H5.out), (by show _ < _; have := H6.out; rw [← Pl.ext_drop, Pl.L_length] at this; exact this), by simp; omega, HB2⟩
                    case measure => simp only [Pl.strSz]; rw [Pl.ext_size]; omega
                · rcases HRS.out with hnb | ⟨h4, h5, h6⟩
                  · rw [Pl.head_end hnl] at hnb
                    cases hnb
                  · have H5 := Pl.hid h5
                    have H6 := Pl.hid h6
                    clear h4 h5 h6 hxq
                    go_wp2_with (at_builtin; refine Mm.wp_app1S _ rfl _ _ (by rfl) w.heap.size _ acc (Pl.B pw) (by rfl) (by rfl) HO1.out (by omega) HB1.out.size ?_; intro v2 w2 hown2 hb2)
                    have HO2 := Pl.hid hown2
                    have HB2 := Pl.hid (HB1.out.trans hb2)
                    clear hown2 hb2
                    go_roundw
                    case rel => exact ⟨_, g, acc ++ [Pl.L (Pl.B pw)], rfl, by rw [Pl.ext_size]; omega, HO2, (by show _ ≠ _; rw [HWp.out, Pl.ext_drop]; exact H5.out), (by show _ < _; have := H6.out; rw [← Pl.ext_drop, Pl.L_length] at this; exact this), by simp; omega, HB2⟩
                    case measure => simp only [Pl.strSz]; rw [Pl.ext_size]; omega
            · have e34 : (((m[0]'hpos).toNat : Int) == 34) = false := beq_eq_false_iff_ne.2 (by omega)
              by_cases h39 : (m[0]'hpos).toNat = 39
              · have e39 : (((m[0]'hpos).toNat : Int) == 39) = true := beq_iff_eq.2 (by omega)
                rcases HCS.out with hnone | ⟨⟨pw, n⟩, h3, hrest⟩
                · have HT := Pl.hid (Pl.tok_39n (s := m) (by rw [HH.out]; congr 1; exact Pl.u8_is (d := 39) h39 rfl) hnone)
                  obtain ⟨TQ, xq, hxq⟩ := (HR.out.on HWr.out).here 5 (by simp)
                  clear hnone h39 HCS h34
                  go_wp2_with (go_at_call 71; refine (blank_byte _ _).mono ?_; rw [hb]; rintro e w' ⟨rfl, rfl⟩)
                  refine (single_walk m _ (by omega)).mono ?_
                  rw [HT.out]
                  rintro e w1 ⟨rfl, hb1⟩
                  have HB1 := Pl.hid (HB.out.trans (hb1.mono HB.out.size))
                  obtain ⟨TQ, xq, hxq⟩ := (HR.out.on (HWr.out.trans (hb1.mono HWr.out.size))).here 5 (by simp)
                  clear hb1
                  go_wp2_with fail
                  go_quiet (fail)
                  go_wp2_with fail
                  go_ret2
                  exact ⟨⟨_, _, rfl⟩, HB1.out.trans (Mm.below_drewN _ _)⟩
                · have HT := Pl.hid (Pl.tok_39 (s := m) (by rw [HH.out]; congr 1; exact Pl.u8_is (d := 39) h39 rfl) h3)
                  have hn1 : 1 ≤ n := HT.out.2.2.1
                  have hn2 : n ≤ m.size := HT.out.2.2.2
                  have HWp : Hid (Pl.L (Pl.B pw) = pw) := Pl.L_B _
                  have HRS := Pl.hid hrest
                  clear h39 h3 hrest HCS h34
                  go_wp2_with (go_at_call 71; refine (blank_byte _ _).mono ?_; rw [hb]; rintro e w' ⟨rfl, rfl⟩)
                  refine (single_walk m _ (by omega)).mono ?_
                  rw [HT.out.1, HT.out.2.1]
                  rintro e w1 ⟨rfl, hb1⟩
                  have HO1 := Pl.hid (HO.out.below hb1)
                  have HB1 := Pl.hid (HB.out.trans (hb1.mono HB.out.size))
                  obtain ⟨TQ, xq, hxq⟩ := (HR.out.on (HWr.out.trans (hb1.mono HWr.out.size))).here 5 (by simp)
                  clear hb1
                  rcases Nat.lt_or_ge n m.size with hnl | hnl
                  · rcases HRS.out with hnb | ⟨h4, h5, h6⟩
                    · have hbn := Pl.head_nb hnl hnb
                      clear hnb
                      go_wp2_with (go_at_call 71; refine (blank_byte _ _).mono ?_; rw [hbn]; rintro e w' ⟨rfl, rfl⟩)
                      go_quiet (fail)
                      go_wp2_with fail
                      go_ret2
                      exact ⟨⟨_, _, rfl⟩, HB1.out.trans (Mm.below_drewN _ _)⟩
                    · have hbn := Pl.head_drop hnl h4
                      have H5 := Pl.hid h5
                      have H6 := Pl.hid h6
                      clear h4 h5 h6 hxq
                      go_wp2_with (first | (go_at_call 71; refine (blank_byte _ _).mono ?_; rw [hbn]; rintro e w' ⟨rfl, rfl⟩) | (at_builtin; refine Mm.wp_app1S _ rfl _ _ (by rfl) w.heap.size _ acc (Pl.B pw) (by rfl) (by rfl) HO1.out (by omega) HB1.out.size ?_; intro v2 w2 hown2 hb2))
                      have HO2 := Pl.hid hown2
                      have HB2 := Pl.hid (HB1.out.trans hb2)
                      clear hown2 hb2
                      go_roundw
                      case rel => exact ⟨_, g, acc ++ [Pl.L (Pl.B pw)], rfl, by rw [Pl.ext_size]; omega, HO2, (by show _ ≠ _; rw [HWp.out, Pl.ext_drop]; exact H5.out), (by show _ < _; have := H6.out; rw [← Pl.ext_drop, Pl.L_length] at this; exact this), by simp; omega, HB2⟩
                      case measure => simp only [Pl.strSz]; rw [Pl.ext_size]; omega
                  · rcases HRS.out with hnb | ⟨h4, h5, h6⟩
                    · rw [Pl.head_end hnl] at hnb
                      cases hnb
                    · have H5 := Pl.hid h5
                      have H6 := Pl.hid h6
                      clear h4 h5 h6 hxq
                      go_wp2_with (at_builtin; refine Mm.wp_app1S _ rfl _ _ (by rfl) w.heap.size _ acc (Pl.B pw) (by rfl) (by rfl) HO1.out (by omega) HB1.out.size ?_; intro v2 w2 hown2 hb2)
                      have HO2 := Pl.hid hown2
                      have HB2 := Pl.hid (HB1.out.trans hb2)
                      clear hown2 hb2
                      go_roundw
                      case rel => exact ⟨_, g, acc ++ [Pl.L (Pl.B pw)], rfl, by rw [Pl.ext_size]; omega, HO2, (by show _ ≠ _; rw [HWp.out, Pl.ext_drop]; exact H5.out), (by show _ < _; have := H6.out; rw [← Pl.ext_drop, Pl.L_length] at this; exact this), by simp; omega, HB2⟩
                      case measure => simp only [Pl.strSz]; rw [Pl.ext_size]; omega
              · skip
                have e39 : (((m[0]'hpos).toNat : Int) == 39) = false := beq_eq_false_iff_ne.2 (by omega)
                have N34 : Hid ((Pl.L m).head? ≠ some 34) := fun h => h34 (by rw [HH.out] at h; injection h with h; rw [h]; rfl)
                have N39 : Hid ((Pl.L m).head? ≠ some 39) := fun h => h39 (by rw [HH.out] at h; injection h with h; rw [h]; rfl)
                obtain ⟨⟨pw, n⟩, h3, hrest⟩ : ∃ p : List UInt8 × Nat, Pl.tok (Pl.L m) = some p ∧ _ := by
                  rcases HCS.out with h | h
                  · exact absurd h (Pl.tok_plainn N34.out N39.out)
                  · exact h
                have H3 := Pl.hid h3
                have HRS := Pl.hid hrest
                clear h34 h39 h3 hrest HCS
                go_wp2_with (go_at_call 71; refine (blank_byte _ _).mono ?_; rw [hb]; rintro e w' ⟨rfl, rfl⟩)
                clear e34 e39 he hne
                go_loop [6] (fun nv => ∃ k : Nat, nv = .int .i64 k ∧ k ≤ m.size ∧ (k = 0 → 0 < m.size) ∧ Hid (∀ j, (hj : j < m.size) → j < k → Pl.blankB (m[j]'hj) = false)) (fun nv => m.size - (intOf nv).toNat)
                case atStart => exact ⟨0, rfl, Nat.zero_le _, fun _ => hpos, fun j hj h => by omega⟩
                case round =>
                  obtain ⟨k, rfl, hk, _, HK⟩ := hrel
                  rcases Nat.lt_or_ge k m.size with hkl | hkl
                  · cases hbk : Pl.blankB (m[k]'hkl) with
                    | false =>
                      go_wp2_with (go_at_call 71; refine (blank_byte _ _).mono ?_; rw [hbk]; rintro e w' ⟨rfl, rfl⟩)
                      go_round
                      case rel => exact ⟨k + 1, by go_num, by omega, fun _ => hpos, fun j hj h => by
                        rcases Nat.lt_or_ge j k with h' | h'
                        · exact HK.out j hj h'
                        · obtain rfl : j = k := by omega
                          exact hbk⟩
                      case measure => simp [intOf]; omega
                    | true =>
                      have HT := Pl.hid (Pl.tok_plain N34.out N39.out H3.out hk HK.out (fun _ => hbk))
                      have hn1 : 1 ≤ k := by
                        rcases Nat.eq_zero_or_pos k with h | h
                        · subst h
                          rw [hb] at hbk
                          cases hbk
                        · exact h
                      have HWp : Hid (Pl.L (m.extract 0 k) = pw) := by
                        show _ = _
                        rw [← HT.out.2, Pl.L_B]
                      have HNK : Hid (n = k) := HT.out.1
                      rcases HRS.out with hnb | ⟨h4, h5, h6⟩
                      · have hnb' : ((Pl.L m).drop k).head?.any (fun d => !Pl.blankB d) = true := by rw [← HNK.out]; exact hnb
                        rw [Pl.head_nb hkl hnb'] at hbk
                        cases hbk
                      · have h4' : ((Pl.L m).drop n).head?.any (fun d => !Pl.blankB d) = false := h4
                        have h5' : (Pl.inl g ((Pl.L m).drop n) (acc ++ [pw])).1 ≠ 0 := h5
                        have h6' : ((Pl.L m).drop n).length < g := h6
                        rw [HNK.out] at h4' h5' h6'
                        have H5 := Pl.hid h5'
                        have H6 := Pl.hid h6'
                        have hbn := Pl.head_drop hkl h4'
                        clear hbk h4 h5 h6 h4' h5' h6'
                        go_wp2_with (first | (go_at_call 71; refine (blank_byte _ _).mono ?_; rw [hbn]; rintro e w' ⟨rfl, rfl⟩) | (at_builtin; refine Mm.wp_app1S _ rfl _ _ (by rfl) w.heap.size _ acc (m.extract 0 k) (by rfl) (by rfl) HO.out (by omega) HB.out.size ?_; intro v2 w2 hown2 hb2))
                        have HO2 := Pl.hid hown2
                        have HB2 := Pl.hid (HB.out.trans hb2)
                        clear hown2 hb2
                        go_roundw
                        case rel => exact ⟨_, g, acc ++ [Pl.L (m.extract 0 k)], rfl, by rw [Pl.ext_size]; omega, HO2, (by show _ ≠ _; rw [HWp.out, Pl.ext_drop]; exact H5.out), (by show _ < _; have := H6.out; rw [← Pl.ext_drop, Pl.L_length] at this; exact this), by simp; omega, HB2⟩
                        case measure => simp only [Pl.strSz]; rw [Pl.ext_size]; omega
                  · have HT := Pl.hid (Pl.tok_plain N34.out N39.out H3.out hk HK.out (fun h => by omega))
                    have hn1 : 1 ≤ k := by omega
                    have HWp : Hid (Pl.L (m.extract 0 k) = pw) := by
                      show _ = _
                      rw [← HT.out.2, Pl.L_B]
                    have HNK : Hid (n = k) := HT.out.1
                    rcases HRS.out with hnb | ⟨h4, h5, h6⟩
                    · have hnb' : ((Pl.L m).drop k).head?.any (fun d => !Pl.blankB d) = true := by rw [← HNK.out]; exact hnb
                      rw [Pl.head_end hkl] at hnb'
                      cases hnb'
                    · have h5' : (Pl.inl g ((Pl.L m).drop n) (acc ++ [pw])).1 ≠ 0 := h5
                      have h6' : ((Pl.L m).drop n).length < g := h6
                      rw [HNK.out] at h5' h6'
                      have H5 := Pl.hid h5'
                      have H6 := Pl.hid h6'
                      clear h4 h5 h6 h5' h6'
                      go_wp2_with (at_builtin; refine Mm.wp_app1S _ rfl _ _ (by rfl) w.heap.size _ acc (m.extract 0 k) (by rfl) (by rfl) HO.out (by omega) HB.out.size ?_; intro v2 w2 hown2 hb2)
                      have HO2 := Pl.hid hown2
                      have HB2 := Pl.hid (HB.out.trans hb2)
                      clear hown2 hb2
                      go_roundw
                      case rel => exact ⟨_, g, acc ++ [Pl.L (m.extract 0 k)], rfl, by rw [Pl.ext_size]; omega, HO2, (by show _ ≠ _; rw [HWp.out, Pl.ext_drop]; exact H5.out), (by show _ < _; have := H6.out; rw [← Pl.ext_drop, Pl.L_length] at this; exact this), by simp; omega, HB2⟩
                      case measure => simp only [Pl.strSz]; rw [Pl.ext_size]; omega
theorem inlE (W : World) (hR : Mm.RErr W) : Mm.InlE W := fun s w hs hW hin => inline_bad s 4098 W w hR hW hs (by omega) hin
end Go.Proofs.YtgpbgldnaongnaaGreatDoor

namespace Go.Proofs.YtgpbgldnaongnaaGreatDoor.Fr
open Go.ChangeShapes Go.WideShapes Go.ChangeAt Go.RowKit

section
variable {H : Type} {enc : TypeId × Value → H} {P : Program}

theorem trodAll_below (hl : laidOutB P = true) {W W' : World} (hb : Below W.heap.size W W') :
    ∀ {ts : List TypeId} {vs : List Value} {ds : List (DataW H)} {ps : List MemPlace}, (∀ t ∈ ts, P.readableRec t = true ∧ t < P.types.size) →
      DataW.TrodAll enc P W 0 (fun _ => true) true ts vs ds ps → DataW.TrodAll enc P W' 0 (fun b => decide (b < W.heap.size)) true ts vs ds ps
  | [], [], [], _, _, h => h
  | t :: ts, v :: vs, d :: ds, ps, hr, h => by
    obtain ⟨p, q, h1, h2, rfl⟩ := h
    have hlt : ∀ x ∈ p, x.block < W.heap.size := by
      obtain ⟨m, hm⟩ := h1
      exact DataW.trod_lt m _ _ _ hm
    exact ⟨p, q, Below.trod hl (hr t (by simp)).1 (hr t (by simp)).2 h1 hb hlt, trodAll_below hl hb (fun t' ht' => hr t' (by simp [ht'])) h2, rfl⟩
  | [], _ :: _, _, _, _, h => h.elim
  | [], [], _ :: _, _, _, h => h.elim
  | _ :: _, [], _, _, _, h => h.elim
  | _ :: _, _ :: _, [], _, _, h => h.elim

theorem trodAll_length {W : World} {base : Nat} {sp : Nat → Bool} {held : Bool} :
    ∀ {ts : List TypeId} {vs : List Value} {ds : List (DataW H)} {ps : List MemPlace}, DataW.TrodAll enc P W base sp held ts vs ds ps → ds.length = ts.length
  | [], [], [], _, _ => rfl
  | t :: ts, v :: vs, d :: ds, ps, h => by
    obtain ⟨p, q, _, h2, _⟩ := h
    simp [trodAll_length h2]
  | [], _ :: _, _, _, h => h.elim
  | [], [], _ :: _, _, h => h.elim
  | _ :: _, [], _, _, h => h.elim
  | _ :: _, _ :: _, [], _, h => h.elim

theorem post_true {f : Func} {s : ChangeSpec} {W W' : World} {args : Array Value} {ds gs : List (DataW H)} {before : List MemPlace} {tb : TypeId} (hl : laidOutB P = true)
    (hts : ∀ t ∈ f.params.toList, P.readableRec t = true ∧ t < P.types.size) (hvars : s.vars = []) (hW : DataW.Whole enc P f.params.toList s.vars false W args.toList ds gs before)
    (hb : Below W.heap.size W W') (hres : f.resultTypes = #[tb]) (hub : P.underlying tb = some .bool) (hfn : s.fn H (ds ++ gs) = { results := [.lit (.bool true)], args := ds }) :
    s.post enc P f false true false false W args (.bool true) W' := by
  have hW' := hW
  obtain ⟨p, q, h1, h2, rfl, hz, ha⟩ := hW
  rw [hvars] at h2
  obtain ⟨rfl, rfl⟩ := trodVars_none h2
  refine ⟨ds, [], p ++ [], [], p, [], hW', ?_, ?_, ?_, hb.frame _, fun h => by cases h⟩
  · rw [hfn, hres]
    exact trodAll_mk1 (shut_bool hub _)
  · rw [hfn]
    exact trodAll_below hl hb hts h1
  · rw [hfn, hvars]
    rfl
end

theorem str_size {a : ByteArray} (h : a.data.toList.length ≤ reachBytes) : a.size ≤ 140737488351232 := by
  rw [Array.length_toList] at h
  exact h

theorem lifted {H : Type} {enc : TypeId × Value → H} {C : Checked} {os : Os} {f : FuncId} {fn : Func} {s : OpenSpec} {F : Stop.Interp} {laid : List (String × DataW Unit)} {tb : TypeId}
    (own : ownKnob C.prog.godebug = none) (started : os.Started) (noInit : C.prog.inits.idxOf? f = none) (hfn : C.prog.funcs[f]? = some fn)
    (witness : ∃ (w : World) (tape : Tape) (i : Input), w.os = os ∧ (w.forCall tape i).Shaped C.prog ∧ i.vars = [] ∧ Input.okWide C.prog (w.forCall tape i) .any w.heap.size f i ∧
      s.preRow enc C.prog fn [] false laid (w.forCall tape i).memory i.args ∧ ({} : Assume).holds C.prog (lone (Frame.enter C.prog f i.args .normal) [] (w.forCall tape i)))
    (hl : laidOutB C.prog = true) (hts : (fn.params.toList.all fun t => C.prog.readableRec t && decide (t < C.prog.types.size)) = true) (hvars : s.vars = [])
    (hres : fn.resultTypes = #[tb]) (hub : C.prog.underlying tb = some .bool)
    (hspec : ∀ ds : List (DataW H), ds.length = fn.params.toList.length → (s.at F).fn H ds = { results := [.lit (.bool true)], args := ds })
    (walk : ∀ (W : World) (base : Nat) (args : Array Value) (ds : List (DataW H)) (before : List MemPlace),
      (∀ (j : Nat) t v, fn.params[j]? = some t → args[j]? = some v → Value.okWide C.prog W .any base t v) →
      DataW.TrodAll enc C.prog W 0 (fun _ => true) true fn.params.toList args.toList ds before → W.noneFrozen before →
      (∀ k, s.cond = some k → k H ds = true) →
      (DataW.weightsEach C.prog fn.params.toList ds).all (· ≤ reachBytes) = true →
      laidMetH C.prog laid W → W.ShapedOpen C.prog →
      Calls C.prog f args W fun e W' => e = .returned (.bool true) ∧ Below W.heap.size W W') :
    ReturnsInHanded {} C os f .any (s.preRow enc C.prog fn [] false laid) ((s.at F).post enc C.prog fn false true false false) := by
  have hts' : ∀ t ∈ fn.params.toList, C.prog.readableRec t = true ∧ t < C.prog.types.size := by
    intro t ht
    have := List.all_eq_true.1 hts t ht
    simpa using this
  refine returnsInHanded_of_row own started noInit hfn witness ?_
  intro W base args ds gs before hval hW _ hk hsz hL hsh _
  have hW0 := hW
  obtain ⟨p, q, h1, h2, rfl, hz, ha⟩ := hW
  rw [hvars] at h2
  obtain ⟨rfl, rfl⟩ := trodVars_none h2
  have hvt : s.bare.plain.varTypes C.prog = [] := by
    show s.vars.filterMap _ = []
    rw [hvars]
    rfl
  rw [hvt] at hsz
  simp only [List.append_nil] at hk hsz hz
  refine (walk W base args ds p hval h1 hz hk hsz hL hsh).mono fun e W' ⟨he, hb⟩ => ?_
  subst he
  refine ⟨_, rfl, ?_⟩
  exact post_true hl hts' hvars hW0 hb hres hub (by rw [List.append_nil]; exact hspec ds (trodAll_length h1))
end Go.Proofs.YtgpbgldnaongnaaGreatDoor.Fr

namespace Go.Proofs.YtgpbgldnaongnaaGreatDoor.Fr
open Go.ChangeShapes Go.WideShapes Go.ChangeAt Go.RowKit
set_option maxRecDepth 100000

theorem witness_shaped {H : Type} {enc : TypeId × Value → H} {C : Checked} {os : Os} {f : FuncId} {fn : Func} {s : OpenSpec} {conds : List PathCond} {apart : Bool} {laid : List (String × DataW Unit)} (w0 : World) (args : Array Value) (hos : w0.os = os)
    (hsh : (w0.forCall (fun _ _ => 0) ⟨#[], args, []⟩).Shaped C.prog)
    (hok : Input.okWideB C.prog (w0.forCall (fun _ _ => 0) ⟨#[], args, []⟩) f ⟨#[], args, []⟩ = true)
    (hrow : s.preRow enc C.prog fn conds apart laid (w0.forCall (fun _ _ => 0) ⟨#[], args, []⟩).memory args) :
    ∃ (w : World) (tape : Tape) (i : Input), w.os = os ∧ (w.forCall tape i).Shaped C.prog ∧ i.vars = [] ∧ Input.okWide C.prog (w.forCall tape i) .any w.heap.size f i ∧
      s.preRow enc C.prog fn conds apart laid (w.forCall tape i).memory i.args ∧ ({} : Assume).holds C.prog (lone (Frame.enter C.prog f i.args .normal) [] (w.forCall tape i)) :=
  ⟨w0, fun _ _ => 0, ⟨#[], args, []⟩, hos, hsh, (Input.okWide_of_okWideB (base := 0) hok).1, (Input.okWide_of_okWideB hok).2, hrow, by
    simp only [Assume.holds]
    exact ⟨by simp, by simp, fun _ => Modest.zero, by simp, by simp⟩⟩

theorem gPow : Tryz.prog.globalNamed "internal/strconv.uint64pow10" = some 7 := by kernel_rfl
theorem gPowType : (Tryz.prog.globals[7]?).map (·.type) = some 131 := by kernel_rfl
theorem cellsPow : Tryz.prog.cellsOf 131 = 20 := by kernel_rfl
theorem cellsU64 : Tryz.prog.cellsOf 117 = 1 := by kernel_rfl
/-- the table of powers, third on every list -/
theorem tab {W : World} {x y : String × DataW Unit} {rest : List (String × DataW Unit)} (h : laidMet Tryz.prog (x :: y :: ("internal/strconv.uint64pow10", Rows.laid_internal_strconv_uint64pow10) :: rest) W) : Mm.Tab W :=
  Mm.tab_of (Lib.tabIs_of_head (rest := rest) gPow gPowType Tryz.underlying131 Tryz.underlying117 cellsU64 cellsPow h.tail.tail)

theorem gRange : Tryz.prog.globalNamed "strconv.ErrRange" = some 13 := by kernel_rfl
theorem gRangeType : (Tryz.prog.globals[13]?).map (·.type) = some 60 := by kernel_rfl
theorem gSyntax : Tryz.prog.globalNamed "strconv.ErrSyntax" = some 12 := by kernel_rfl
theorem gSyntaxType : (Tryz.prog.globals[12]?).map (·.type) = some 60 := by kernel_rfl
theorem starErr : "*" ++ "errors.errorString" = "*errors.errorString" := by decide
theorem rowErr (u : TypeId) (h : Tryz.prog.typeName? 3 u = some "*errors.errorString") : u = 162 :=
  typeName_ptr_named (nm := "errors.errorString") (by rw [starErr]; kernel_rfl) (by kernel_rfl) (by decide) u (by rw [starErr]; exact h)
theorem cellsErr : Tryz.prog.cellsOf 164 = 1 := by kernel_rfl
theorem cellsStr : Tryz.prog.cellsOf 9 = 1 := by kernel_rfl
/-- the two errors of the library -/
theorem errs {W : World} {r r' : List (String × DataW Unit)} (h1 : laidMet Tryz.prog (("strconv.ErrRange", Rows.laid_strconv_ErrRange) :: r) W) (h2 : laidMet Tryz.prog (("strconv.ErrSyntax", Rows.laid_strconv_ErrSyntax) :: r') W) : Mm.Errs W := by
  obtain ⟨a1, s1, v1, _⟩ := laid_sentinel h1 gRange gRangeType Tryz.underlying60 rowErr Tryz.underlying162 Tryz.underlying164 rfl rfl Tryz.underlying9 cellsErr cellsStr
  obtain ⟨a2, s2, v2, _⟩ := laid_sentinel h2 gSyntax gSyntaxType Tryz.underlying60 rowErr Tryz.underlying162 Tryz.underlying164 rfl rfl Tryz.underlying9 cellsErr cellsStr
  exact Mm.errs_of ⟨_, _, v2⟩ ⟨_, _, v1⟩
end Go.Proofs.YtgpbgldnaongnaaGreatDoor.Fr

namespace Go.Proofs.YtgpbgldnaongnaaGreatDoor.Arg
open Go.ChangeShapes Go.WideShapes Go.ChangeAt Go.RowKit
open Mm Pl
set_option maxRecDepth 20000

theorem addM (b o n : Nat) : (⟨b, o, none⟩ : Addr).add n = ⟨b, o + n, none⟩ := by
  unfold Addr.add; split <;> simp_all
theorem cellsRep : Tryz.prog.cellsOf 25 = 4 := by kernel_rfl
theorem cellsStep : Tryz.prog.cellsOf 27 = 7 := by kernel_rfl
theorem cellsInt : Tryz.prog.cellsOf 3 = 1 := by kernel_rfl
theorem cellsI64 : Tryz.prog.cellsOf 2 = 1 := by kernel_rfl
theorem cellsL : Tryz.prog.cellsOf 22 = 1 := by kernel_rfl
theorem cellsB : Tryz.prog.cellsOf 23 = 1 := by kernel_rfl
theorem cellsU8 : Tryz.prog.cellsOf 5 = 1 := by kernel_rfl
theorem bulk_pos {H : Type} (d : DataW H) : 0 < Rows.uptoBulk d := by
  cases d with
  | lit l => cases l <;> simp [Rows.uptoBulk]
  | _ => simp [Rows.uptoBulk]
theorem bulk_len {H : Type} : ∀ l : List (DataW H), l.length ≤ Rows.uptoBulkAll l
  | [] => by simp [Rows.uptoBulkAll]
  | d :: l => by
    have h1 := bulk_len l
    have h2 := bulk_pos d
    simp only [Rows.uptoBulkAll, List.length_cons]
    omega
theorem bulk_mem {H : Type} : ∀ {l : List (DataW H)} {d : DataW H}, d ∈ l → Rows.uptoBulk d ≤ Rows.uptoBulkAll l
  | e :: l, d, h => by
    simp only [Rows.uptoBulkAll]
    rcases List.mem_cons.1 h with rfl | h
    · omega
    · have := bulk_mem h
      omega
theorem szL_bulk {H : Type} : ∀ (l : List RT) (ds : List (DataW H)), l.length = ds.length → (∀ i (h1 : i < l.length) (h2 : i < ds.length), (l[i]'h1).sz ≤ 5 * Rows.uptoBulk (ds[i]'h2)) → RT.szL l ≤ 5 * Rows.uptoBulkAll ds
  | [], _, _, _ => by simp [RT.szL]
  | x :: l, [], h, _ => by simp at h
  | x :: l, d :: ds, h, hb => by
    have h1 := hb 0 (by simp) (by simp)
    have h2 := szL_bulk l ds (by simpa using h) fun i a b => hb (i + 1) (by simpa using a) (by simpa using b)
    simp only [List.getElem_cons_zero] at h1
    simp only [RT.szL, Rows.uptoBulkAll]
    omega
theorem list4 {cs : List Value} (h : cs.length = 4) : ∃ a b c d, cs = [a, b, c, d] := by
  match cs, h with
  | [a, b, c, d], _ => exact ⟨a, b, c, d, rfl⟩
/-- a row of replies that came in, its replies being read -/
theorem rowOf {H : Type} {enc : TypeId × Value → H} {W : World} (B : Nat)
    (IH : ∀ (fuel : Nat) (cs : List Value) (x : DataW H × List MemPlace), Rows.uptoBulk x.1 < B → DataW.trod enc Tryz.prog W 0 (fun _ => true) true fuel 25 cs = some x → ∃ t : RT, RepY W t cs ∧ t.In ∧ t.sz ≤ 5 * Rows.uptoBulk x.1)
    {fuel : Nat} {v : Value} {x : DataW H × List MemPlace} (hB : Rows.uptoBulk x.1 ≤ B) (h : DataW.trod enc Tryz.prog W 0 (fun _ => true) true fuel 22 [v] = some x) :
    ∃ l : List RT, (∀ k s n, RepY W (.mk k s n l) [.int .i64 k, .string s, .int .i64 n, v]) ∧ (∀ t ∈ l, t.In) ∧ RT.szL l + 5 ≤ 5 * Rows.uptoBulk x.1 := by
  rcases Go.Deep.open_slice Tryz.underlying22 h with ⟨e3, hx0⟩ | ⟨ad, len, cap, m, n, D, Pq, e3, _, hlc, hcap, hm, hxx, hx⟩
  · obtain rfl := List.cons.inj e3 |>.1
    refine ⟨[], fun k s n => RepY.leaf W k s n, (fun t ht => by cases ht), ?_⟩
    rw [hx0]
    simp [RT.szL, Rows.uptoBulk]
  · obtain rfl := List.cons.inj e3 |>.1
    have hlm : len ≤ m := by rw [hm]; split <;> omega
    have hbk : Rows.uptoBulk x.1 = Rows.uptoBulkAll ((List.range len).map D) + Rows.uptoBulkAll ((List.range (m - len)).map fun j => D (len + j)) + 1 := by rw [hxx]; rfl
    have hbi : ∀ i, i < len → Rows.uptoBulk (D i) < B := fun i hi => by
      have := bulk_mem (List.mem_map_of_mem (f := D) (List.mem_range.2 hi))
      omega
    rw [cellsRep] at hx
    have key : ∀ i, i < len → ∃ (t : RT) (g : Nat → Value), (∀ j, j < 4 → W.cell? ((ad.add (i * 4)).add j) = some (g j)) ∧ RepY W t [g 0, g 1, g 2, g 3] ∧ t.In ∧ t.sz ≤ 5 * Rows.uptoBulk (D i) := by
      intro i hi
      obtain ⟨cs, hc, hd⟩ := hx i (by omega)
      obtain ⟨t, h1, h2, h3⟩ := IH n cs _ (hbi i hi) hd
      obtain ⟨_, hn, h4⟩ := World.cells?_some hc
      obtain ⟨c0, c1, c2, c3, rfl⟩ := list4 hn
      refine ⟨t, fun j => [c0, c1, c2, c3].getD j c0, fun j hj => ?_, h1, h2, h3⟩
      rw [h4 j hj]
      match j, hj with
      | 0, _ => rfl
      | 1, _ => rfl
      | 2, _ => rfl
      | 3, _ => rfl
    obtain ⟨F, G, hF⟩ : ∃ (F : Nat → RT) (G : Nat → Nat → Value), ∀ i, i < len → (∀ j, j < 4 → W.cell? ((ad.add (i * 4)).add j) = some (G i j)) ∧ RepY W (F i) [G i 0, G i 1, G i 2, G i 3] ∧ (F i).In ∧ (F i).sz ≤ 5 * Rows.uptoBulk (D i) := by
      refine ⟨fun i => if h : i < len then Classical.choose (key i h) else .mk 0 ⟨#[]⟩ 0 [], fun i => if h : i < len then Classical.choose (Classical.choose_spec (key i h)) else fun _ => .nilIface, fun i hi => ?_⟩
      have := Classical.choose_spec (Classical.choose_spec (key i hi))
      simp only [hi, dif_pos]
      exact this
    refine ⟨(List.range len).map F, fun k s n' => ?_, fun t ht => ?_, ?_⟩
    · rcases Nat.eq_zero_or_pos len with h0 | h0
      · have := RepY.mk (w := W) k s n' ((List.range len).map F) (some ad) cap 0 0 (fun _ _ => .nilIface) (.inl (by simp [h0])) (fun i hi => absurd hi (by simp [h0])) (fun i hi => absurd hi (by simp [h0]))
        simpa using this
      · obtain ⟨ab, ao, sp⟩ := ad
        have hc0 := (hF 0 h0).1 0 (by omega)
        have hsp := World.cell?_spot hc0
        have hsp' : sp = none := by
          revert hsp
          cases sp <;> simp [Addr.add]
        subst hsp'
        have := RepY.mk (w := W) k s n' ((List.range len).map F) (some ⟨ab, ao, none⟩) cap ab ao G (.inr rfl) (fun i hi j hj => by
          have hi' : i < len := by simpa using hi
          have hc := (hF i hi').1 j hj
          rw [addM, addM] at hc
          exact hc) (fun i hi => by
          have hi' : i < len := by simpa using hi
          simp only [List.getElem_map, List.getElem_range]
          exact (hF i hi').2.1)
        simpa using this
    · obtain ⟨i, hi, rfl⟩ := List.mem_map.1 ht
      exact (hF i (by simpa using hi)).2.2.1
    · have := szL_bulk ((List.range len).map F) ((List.range len).map D) (by simp) (fun i h1 h2 => by
        have hi' : i < len := by simpa using h1
        simp only [List.getElem_map, List.getElem_range]
        exact (hF i hi').2.2.2)
      omega
/-- a reply that came in -/
theorem replyT {H : Type} {enc : TypeId × Value → H} {W : World} : ∀ (B : Nat) (fuel : Nat) (cs : List Value) (x : DataW H × List MemPlace), Rows.uptoBulk x.1 < B →
    DataW.trod enc Tryz.prog W 0 (fun _ => true) true fuel 25 cs = some x → ∃ t : RT, RepY W t cs ∧ t.In ∧ t.sz ≤ 5 * Rows.uptoBulk x.1
  | 0, _, _, _, h, _ => absurd h (Nat.not_lt_zero _)
  | B + 1, fuel, cs, x, hB, h => by
    obtain ⟨y0, y1, y2, y3, n, rfl, hl, h0, h1, h2, h3⟩ := Go.Joins.trod_struct4 Tryz.underlying25 h
    rw [cellsRep] at hl
    obtain ⟨c0, c1, c2, c3, rfl⟩ := list4 hl
    simp only [cellsInt, Fr.cellsStr, cellsI64, cellsL] at h0 h1 h2 h3
    obtain ⟨k, e0, f0, _⟩ := DataW.trod_int Tryz.underlying3 h0
    obtain ⟨s, e1, f1, _⟩ := DataW.trod_string Tryz.underlying9 h1
    obtain ⟨m, e2, f2, w2⟩ := DataW.trod_int Tryz.underlying2 h2
    simp at e0 e1 e2
    subst e0 e1 e2
    have hbk : Rows.uptoBulk (DataW.agg [y0.1, y1.1, y2.1, y3.1]) = s.size + Rows.uptoBulk y3.1 + 4 := by
      rw [f0, f1, f2]
      have hs : s.data.size = s.size := rfl
      simp only [Rows.uptoBulk, Rows.uptoBulkAll, Array.length_toList, hs]
      omega
    simp only at hB
    rw [hbk] at hB
    obtain ⟨l, r1, r2, r3⟩ := rowOf B (replyT B) (x := y3) (by omega) h3
    refine ⟨.mk k s m l, r1 k s m, .mk _ _ _ _ (bounds_i64 w2) r2, ?_⟩
    rw [RT.sz_mk]
    show _ ≤ 5 * Rows.uptoBulk (DataW.agg [y0.1, y1.1, y2.1, y3.1])
    rw [hbk]
    omega
/-- replies that came in -/
theorem repliesO {H : Type} {enc : TypeId × Value → H} {W : World} {fuel : Nat} {v : Value} {x : DataW H × List MemPlace}
    (h : DataW.trod enc Tryz.prog W 0 (fun _ => true) true fuel 22 [v] = some x) : ∃ l : List RT, RepY W (.mk 0 ⟨#[]⟩ 0 l) [.int .i64 0, .string ⟨#[]⟩, .int .i64 0, v] ∧ (∀ t ∈ l, t.In) ∧ RT.szL l + 5 ≤ 5 * Rows.uptoBulk x.1 := by
  obtain ⟨l, h1, h2, h3⟩ := rowOf (Rows.uptoBulk x.1) (replyT _) (Nat.le_refl _) h
  exact ⟨l, h1 _ _ _, h2, h3⟩
/-- bytes that came in: some slice -/
theorem sliceB {H : Type} {enc : TypeId × Value → H} {W : World} {fuel : Nat} {cs : List Value} {x : DataW H × List MemPlace}
    (h : DataW.trod enc Tryz.prog W 0 (fun _ => true) true fuel 23 cs = some x) : ∃ a n c, cs = [.slice a n c] := by
  rcases DataW.trod_slice Tryz.underlying23 h with ⟨e3, _⟩ | ⟨ad, len, cap, elems, rest, q, _, e3, _⟩
  · exact ⟨_, _, _, e3⟩
  · exact ⟨_, _, _, e3⟩
theorem list7 {cs : List Value} (h : cs.length = 7) : ∃ a b c d e f g, cs = [a, b, c, d, e, f, g] := by
  match cs, h with
  | [a, b, c, d, e, f, g], _ => exact ⟨a, b, c, d, e, f, g, rfl⟩
/-- a step that came in -/
theorem stepO {H : Type} {enc : TypeId × Value → H} {W : World} {fuel : Nat} {cs : List Value} {x : DataW H × List MemPlace}
    (h : DataW.trod enc Tryz.prog W 0 (fun _ => true) true fuel 27 cs = some x) :
    ∃ (z who : Int) (bv c3 c4 c5 c6 : Value) (t : RT), cs = [.int .i64 z, .int .i64 who, bv, c3, c4, c5, c6] ∧ RepY W t [c3, c4, c5, c6] ∧ t.In ∧ t.sz ≤ 5 * Rows.uptoBulk x.1 := by
  obtain ⟨y0, y1, y2, y3, n, rfl, hl, h0, h1, h2, h3⟩ := Go.Joins.trod_struct4 Tryz.underlying27 h
  rw [cellsStep] at hl
  obtain ⟨c0, c1, c2, c3, c4, c5, c6, rfl⟩ := list7 hl
  simp only [cellsInt, cellsB, cellsRep] at h0 h1 h2 h3
  change DataW.trod enc _ W 0 _ true n 3 [c0] = some y0 at h0
  change DataW.trod enc _ W 0 _ true n 3 [c1] = some y1 at h1
  change DataW.trod enc _ W 0 _ true n 25 [c3, c4, c5, c6] = some y3 at h3
  obtain ⟨z, e0, _, _⟩ := DataW.trod_int Tryz.underlying3 h0
  obtain ⟨who, e1, _, _⟩ := DataW.trod_int Tryz.underlying3 h1
  simp at e0 e1
  subst e0 e1
  obtain ⟨t, r1, r2, r3⟩ := replyT (Rows.uptoBulk y3.1 + 1) _ _ y3 (Nat.lt_succ_self _) h3
  refine ⟨z, who, c2, c3, c4, c5, c6, t, rfl, r1, r2, ?_⟩
  have : Rows.uptoBulk y3.1 ≤ Rows.uptoBulk (DataW.agg [y0.1, y1.1, y2.1, y3.1]) := by
    simp only [Rows.uptoBulk, Rows.uptoBulkAll]
    omega
  show _ ≤ 5 * Rows.uptoBulk (DataW.agg [y0.1, y1.1, y2.1, y3.1])
  omega
theorem gCount : Tryz.prog.globalNamed "pantry/request.ErrCount" = some 4 := by kernel_rfl
theorem gCountT : (Tryz.prog.globals[4]?).map (·.type) = some 60 := by kernel_rfl
theorem gLength : Tryz.prog.globalNamed "pantry/request.ErrLength" = some 2 := by kernel_rfl
theorem gLengthT : (Tryz.prog.globals[2]?).map (·.type) = some 60 := by kernel_rfl
theorem gMark : Tryz.prog.globalNamed "pantry/request.ErrMark" = some 1 := by kernel_rfl
theorem gMarkT : (Tryz.prog.globals[1]?).map (·.type) = some 60 := by kernel_rfl
theorem gEnd : Tryz.prog.globalNamed "pantry/request.ErrEnd" = some 0 := by kernel_rfl
theorem gEndT : (Tryz.prog.globals[0]?).map (·.type) = some 60 := by kernel_rfl
theorem gQuote : Tryz.prog.globalNamed "pantry/request.ErrQuote" = some 5 := by kernel_rfl
theorem gQuoteT : (Tryz.prog.globals[5]?).map (·.type) = some 60 := by kernel_rfl
theorem gTooBig : Tryz.prog.globalNamed "pantry/request.ErrTooBig" = some 3 := by kernel_rfl
theorem gTooBigT : (Tryz.prog.globals[3]?).map (·.type) = some 60 := by kernel_rfl
/-- the six errors of requests, one behind the other on the list -/
theorem rerr {W : World} {rest : List (String × DataW Unit)} (h : laidMet Tryz.prog (("pantry/request.ErrCount", Rows.laid_pantry_request_ErrCount) :: ("pantry/request.ErrLength", Rows.laid_pantry_request_ErrLength) :: ("pantry/request.ErrMark", Rows.laid_pantry_request_ErrMark) ::
    ("pantry/request.ErrEnd", Rows.laid_pantry_request_ErrEnd) :: ("pantry/request.ErrQuote", Rows.laid_pantry_request_ErrQuote) :: ("pantry/request.ErrTooBig", Rows.laid_pantry_request_ErrTooBig) :: rest) W) : Mm.RErr W := by
  obtain ⟨a1, s1, v1, _⟩ := laid_sentinel h gCount gCountT Tryz.underlying60 Fr.rowErr Tryz.underlying162 Tryz.underlying164 rfl rfl Tryz.underlying9 Fr.cellsErr Fr.cellsStr
  obtain ⟨a2, s2, v2, _⟩ := laid_sentinel h.tail gLength gLengthT Tryz.underlying60 Fr.rowErr Tryz.underlying162 Tryz.underlying164 rfl rfl Tryz.underlying9 Fr.cellsErr Fr.cellsStr
  obtain ⟨a3, s3, v3, _⟩ := laid_sentinel h.tail.tail gMark gMarkT Tryz.underlying60 Fr.rowErr Tryz.underlying162 Tryz.underlying164 rfl rfl Tryz.underlying9 Fr.cellsErr Fr.cellsStr
  obtain ⟨a4, s4, v4, _⟩ := laid_sentinel h.tail.tail.tail gEnd gEndT Tryz.underlying60 Fr.rowErr Tryz.underlying162 Tryz.underlying164 rfl rfl Tryz.underlying9 Fr.cellsErr Fr.cellsStr
  obtain ⟨a5, s5, v5, _⟩ := laid_sentinel h.tail.tail.tail.tail gQuote gQuoteT Tryz.underlying60 Fr.rowErr Tryz.underlying162 Tryz.underlying164 rfl rfl Tryz.underlying9 Fr.cellsErr Fr.cellsStr
  obtain ⟨a6, s6, v6, _⟩ := laid_sentinel h.tail.tail.tail.tail.tail gTooBig gTooBigT Tryz.underlying60 Fr.rowErr Tryz.underlying162 Tryz.underlying164 rfl rfl Tryz.underlying9 Fr.cellsErr Fr.cellsStr
  have cell : ∀ {w' : World} {n : String} {g : Nat} {u : Value}, Below W.heap.size W w' → Tryz.prog.globalNamed n = some g → W.var? Tryz.prog n = some #[u] → w'.cell? ⟨g, 0, none⟩ = some u := fun hb hg hv => by
    have := Mm.var_below hb hv
    rw [World.var?_cell hg this]
    rfl
  intro w' hb g hg
  rcases hg with rfl | rfl | rfl | rfl | rfl | rfl
  · exact ⟨_, _, cell hb gCount v1⟩
  · exact ⟨_, _, cell hb gLength v2⟩
  · exact ⟨_, _, cell hb gMark v3⟩
  · exact ⟨_, _, cell hb gEnd v4⟩
  · exact ⟨_, _, cell hb gQuote v5⟩
  · exact ⟨_, _, cell hb gTooBig v6⟩
end Go.Proofs.YtgpbgldnaongnaaGreatDoor.Arg
