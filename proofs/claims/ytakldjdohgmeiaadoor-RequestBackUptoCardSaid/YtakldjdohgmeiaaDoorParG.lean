/- A parser's inline and part: Go's inline, part. Conditions stand in each law. -/
import Derived.Test.YtakldjdohgmeiaaDoorParF
namespace Go.Proofs.YtakldjdohgmeiaaDoor
open Go.RowKit
set_option maxRecDepth 20000

namespace Pl
theorem trim_cut (t : List UInt8) (g o : Nat) : Lib.trimSuffixV (some ⟨g, o, none⟩) t.length t.length (natL t) [13] = .slice (some ⟨g, o, none⟩) (cutM t).length t.length := by
  cases h : crB t with
  | false => rw [trim_no h]; unfold cutM; rw [h]; rfl
  | true =>
    obtain ⟨k, hk⟩ : ∃ k, t.length = k + 1 := ⟨t.length - 1, by have := crB_pos h; omega⟩
    rw [hk, trim_yes h]
    unfold cutM
    rw [h, if_pos rfl, List.length_dropLast, hk]
    rfl
theorem cutM_len (t : List UInt8) : (cutM t).length ≤ t.length := by unfold cutM; split <;> simp
theorem cutM_take (t : List UInt8) : cutM t = t.take (cutM t).length := by
  unfold cutM
  split
  · rw [List.length_dropLast, ← List.dropLast_eq_take]
  · simp
theorem inlineM_none {st : Pst} {l : List UInt8} (h : lineM l 4096 = none) : inlineM st l = (0, { st with err := decide (4096 < l.length) }) := by unfold inlineM; rw [h]
theorem inlineM_ok {st : Pst} {l t : List UInt8} {ws : List (List UInt8)} (h : lineM l 4096 = some t) (hq : inl 4098 (cutM t) [] = (0, ws)) : inlineM st l = (t.length + 1, if ws = [] then st else { st with ready := st.ready ++ [ws] }) := by
  unfold inlineM
  rw [h]
  simp only
  rw [hq]
  rfl
theorem inlineM_bad {st : Pst} {l t : List UInt8} (h : lineM l 4096 = some t) (hq : (inl 4098 (cutM t) []).1 ≠ 0) : inlineM st l = (0, { st with err := true }) := by
  unfold inlineM
  rw [h]
  simp only
  split
  · rename_i e
    rw [e] at hq
    exact absurd rfl hq
  · rfl
end Pl
namespace Mm
open Pl
theorem gDrew {a b : World} {o : Obj} {r : Option Nat} (h : (a.alloc o).grownBy b r) : (a.drew.alloc o).grownBy b r := ⟨h.os, h.tape, h.output, h.size, h.block⟩
theorem OwnS.base {w : World} {b b' : Nat} {v : Value} {l : List (List UInt8)} (h : OwnS w b v l) (hb : b' ≤ b) : OwnS w b' v l := by
  obtain ⟨hl, h0 | ⟨g, cap, cur, hv, hg, r⟩⟩ := h
  · exact ⟨hl, .inl h0⟩
  · exact ⟨hl, .inr ⟨g, cap, cur, hv, Nat.le_trans hb hg, r⟩⟩
/-- 'append(ready, words)' -/
theorem wp_appC {ops : Array Oper} {rest : List Oper} {o : Oper} {a : Act} {Q : Exit → Act → World → Prop} (w : World) (hgd : o.guard = none) (x y : Operand)
    (ho : o.op = .call { callee := .builtin .append, args := #[x, y], argTypes := #[65, 65] })
    (w1 : World) (u : Value) (hu : u.oneCell' = true) (base : Nat) (v : Value) (xs : List Value) (hx : a.eval x = v) (h : w1.ownsRow base 22 1 v xs.length xs) (hy : a.eval y = .slice (some ⟨w1.heap.size, 0, none⟩) 1 1) (hw : w = w1.alloc (.cells #[u] 22))
    (hl : xs.length < 4398046511103) (hbase : base ≤ w1.heap.size)
    (hK : ∀ v' w', w'.ownsRow base 22 1 v' (xs ++ [u]).length (xs ++ [u]) → w.grownBy w' v.ownBlock → (v'.ownBlock = v.ownBlock ∨ v'.ownBlock = some w.heap.size) → wpList Tryd.prog ops Q rest (a.put o.dst v') w') : wpList Tryd.prog ops Q (o :: rest) a w :=
  wpList_plain hgd fun _ hK' => wp0_app1 w x y 65 22 24 (.slice none 0 0) rfl Tryd.info_strs Tryd.underlying65 ho w1 u base v xs hx h hu hy hw (by unfold maxLen; omega) (by omega) hbase fun v' w' h1 h2 h3 => hK' _ _ (hK v' w' h1 h2 h3)
theorem PV.pushed {w0 w w6 w8 : World} {o : Obj} {p : Nat} {bv wv rv ev v6 nv : Value} {st st' : Pst} {rows : List Value} {ws : List (List UInt8)} (h0 : PV w0 p bv st wv rv ev rows) (h : PV w p bv st wv rv ev rows) (hn : OwnS w w0.heap.size nv ws)
    (ho : w6.ownsRow (p + 1) 22 1 v6 (rows ++ [nv]).length (rows ++ [nv])) (hg : (w.drew.alloc o).grownBy w6 rv.ownBlock)
    (hat : v6.ownBlock = rv.ownBlock ∨ v6.ownBlock = some (w.drew.alloc o).heap.size) (h8 : w6.grownBy w8 (some p)) (hp : w8.heap[p]? = some (.cells (cellsP bv wv v6 ev st') 90 (0, 0)))
    (h1 : st'.words = st.words) (h2 : st'.ready = st.ready ++ [ws]) (h3 : st'.err = st.err) : PV w8 p bv st' wv v6 ev (rows ++ [nv]) := by
  have hs : (w.drew.alloc o).heap.size = w.heap.size + 1 := by simp
  have hp0 := h0.lt
  have hnew : ∀ g, nv.ownBlock = some g → w0.heap.size ≤ g ∧ g < w.heap.size := fun g hg => hn.lt g hg
  have hrow : ∀ v ∈ rows ++ [nv], (∃ l, OwnS w (p + 1) v l) ∧ noA v rv ∧ noA v wv := by
    intro v hv
    rcases List.mem_append.1 hv with hv | hv
    · exact ⟨h.2.2.2.1.row hv, (h.2.2.2.2.2.1 v hv).2, (h.2.2.2.2.2.1 v hv).1⟩
    · obtain rfl : v = nv := by simpa using hv
      refine ⟨⟨_, hn.base (by omega)⟩, fun g e1 e2 => ?_, fun g e1 e2 => ?_⟩
      · have := (h0.2.2.1.lt g e2).2
        have := (hnew g e1).1
        omega
      · have := (h0.2.1.lt g e2).2
        have := (hnew g e1).1
        omega
  refine ⟨hp, ?_, ?_, ?_, ?_, ?_, by rw [h3]; exact h.2.2.2.2.2.2⟩
  · rw [h1]
    exact h.2.1.keep fun g hg' => far w o hg h8 (h.2.1.lt g hg').2 (h.2.1.lt g hg').1 (fun e => h.2.2.2.2.1 g hg' e)
  · exact ownsRow_keep ho fun g hg' => h8.block g (ho.lt g hg').2 (fun e => by injection e with e; have := (ho.lt g hg').1; omega)
  · have k : Rdy w (p + 1) (rows ++ [nv]) (st.ready ++ [ws]) := by
      refine ⟨by simp [h.2.2.2.1.1], fun i l hl => ?_⟩
      rcases Nat.lt_or_ge i st.ready.length with hi | hi
      · rw [List.getElem?_append_left hi] at hl
        obtain ⟨v, e1, e2⟩ := h.2.2.2.1.2 i l hl
        exact ⟨v, by rw [List.getElem?_append_left (by rw [h.2.2.2.1.1]; exact hi)]; exact e1, e2⟩
      · rw [List.getElem?_append_right hi] at hl
        have h0' : i - st.ready.length = 0 := by
          have := (List.getElem?_eq_some_iff.1 hl).1
          simp at this
          omega
        rw [h0'] at hl
        obtain rfl : ws = l := by simpa using hl
        refine ⟨nv, ?_, hn.base (by omega)⟩
        rw [List.getElem?_append_right (by rw [h.2.2.2.1.1]; exact hi), h.2.2.2.1.1, h0']
        rfl
    rw [h2]
    exact k.keep fun v hv g hg' => by
      obtain ⟨⟨l, hl⟩, hn', _⟩ := hrow v hv
      exact far w o hg h8 (hl.lt g hg').2 (hl.lt g hg').1 (fun e => hn' g hg' e)
  · intro g hg1 hg2
    rcases hat with e | e
    · rw [e] at hg2
      exact h.2.2.2.2.1 g hg1 hg2
    · rw [e] at hg2
      injection hg2 with hg2
      have := (h.2.1.lt g hg1).2
      omega
  · intro v hv
    obtain ⟨⟨l, hl⟩, hn', hn''⟩ := hrow v hv
    refine ⟨hn'', fun g hg1 hg2 => ?_⟩
    rcases hat with e | e
    · rw [e] at hg2
      exact hn' g hg1 hg2
    · rw [e] at hg2
      injection hg2 with hg2
      have := (hl.lt g hg1).2
      omega
theorem chgP {w0 w w6 w8 : World} {o : Obj} {p : Nat} {wv rv v6 nv : Value} {rows : List Value} (hb : Below w0.heap.size w0 w) (hn : ∀ g, nv.ownBlock = some g → w0.heap.size ≤ g) (hg : (w.drew.alloc o).grownBy w6 rv.ownBlock) (hat : v6.ownBlock = rv.ownBlock ∨ v6.ownBlock = some (w.drew.alloc o).heap.size) (h8 : w6.grownBy w8 (some p)) : Chg w0 (foot p wv rv rows) w8 (foot p wv v6 (rows ++ [nv])) := by
  have hs : (w.drew.alloc o).heap.size = w.heap.size + 1 := by simp
  have h6 := hg.size
  have h7 := h8.size
  have h5 := hb.size
  refine ⟨h8.os.trans (hg.os.trans hb.os), h8.tape.trans (hg.tape.trans hb.tape), h8.output.trans (hg.output.trans hb.output), by omega, fun g hg0 hf => ?_, fun g hg' => ?_⟩
  · rw [h8.block g (by omega) (fun e => by injection e with e; exact hf (.inl e)), hg.block g (by omega) (fun e => hf (.inr (.inr (.inl e.symm))))]
    exact (Below.heap_alloc w.drew o g (by show g < w.heap.size; omega)).trans (hb.block g hg0)
  · rcases hg' with e | e | e | ⟨v, hv, e⟩
    · exact .inl (.inl e)
    · exact .inl (.inr (.inl e))
    · rcases hat with h | h
      · exact .inl (.inr (.inr (.inl (by rw [← h]; exact e))))
      · rw [h] at e
        injection e with e
        exact .inr (by omega)
    · rcases List.mem_append.1 hv with hv | hv
      · exact .inl (.inr (.inr (.inr ⟨v, hv, e⟩)))
      · obtain rfl : v = nv := by simpa using hv
        exact .inr (hn g e)
/-- a line that is no row of words: some error is told -/
def InlE (W : World) : Prop := ∀ (s : ByteArray) (w : World), s.size ≤ 4096 → Below W.heap.size W w → (inl 4098 (L s) []).1 ≠ 0 →
  Calls Tryd.prog 38 #[.string s] w fun e w' => (∃ T x, e = .returned (.tuple #[.slice none 0 0, .iface T x])) ∧ Below w.heap.size w w'
end Mm

set_option maxHeartbeats 8000000 in
theorem pinline_walk (p g o c : Nat) (l : List UInt8) (bv : Value) (st : Pl.Pst) (F : Nat → Prop) (W w : World) (hpW : W.heap.size ≤ p) (hR : Mm.RErr W) (hI : Mm.InlE W) (hW : Below W.heap.size W w) (hl : l.length ≤ 140737488351232) (hc : l.length ≤ c) (h0 : 0 < l.length) (h : Mm.BytesAt w g o l)
    (hp : Mm.PQ w p bv st F) (he : st.err = false) (hrd : st.ready.length ≤ 1099511627776) :
    Calls Tryd.prog 74 #[.pointer (some ⟨p, 0, none⟩), .slice (some ⟨g, o, none⟩) l.length c] w fun e w' => e = .returned (.int .i64 ((Pl.inlineM st l).1 : Int)) ∧ ∃ F', Mm.PQ w' p bv (Pl.inlineM st l).2 F' ∧ Mm.Chg w F w' F' := by
  have HP := Pl.hid hp
  have HM := Pl.hid h
  have HR := Pl.hid hR
  have HI := Pl.hid hI
  have HW := Pl.hid hW
  have He := Pl.hid he
  have HPW := Pl.hid hpW
  clear hp h hR hI hW he hpW
  cases hline : Pl.lineM l 4096 with
  | none =>
    rw [Pl.inlineM_none hline]
    have HL := Pl.hid hline
    obtain ⟨wv0, rv0, ev0, rows0, hv0, hF⟩ := HP.out
    have HF := Pl.hid hF
    clear hline hv0 hF
    simp only
    go_enter Tryd.func74, Tryd.ntmps74
    go_wp2_with fail
    refine (line_none p g o c 4096 4096 rfl l bv st F W w HR.out HW.out hl hc (by decide) HM.out HL.out HP.out He.out).mono ?_
    rintro e w1 ⟨rfl, hp1, hg1⟩
    have HP1 := Pl.hid hp1
    have HG1 := Pl.hid hg1
    clear hp1 hg1
    go_wp2_with fail
    go_ret
    exact ⟨rfl, F, HP1.out, Mm.Chg.grown HG1.out (fun g e => by rw [HF.out]; injection e with e; exact .inl e.symm) (fun _ h => .inl h)⟩
  | some t =>
    have HL := Pl.hid hline
    obtain ⟨_, _, ht, htl, ht46⟩ := Pl.lineM_some hline
    have HMt : Hid (Mm.BytesAt w g o t) := by
      have := HM.out.take t.length
      rwa [← ht] at this
    have htc : t.length ≤ c := by omega
    have HLN := Pl.hid hline
    clear hline ht
    obtain ⟨wv, rv, ev, rows, hv, hF⟩ := HP.out
    have HV := Pl.hid hv
    have HF := Pl.hid hF
    have HRD : Hid (rows.length ≤ 1099511627776) := by show _ ≤ _; rw [hv.2.2.2.1.1]; exact hrd
    clear hv hF hrd HP
    have HB1 := Pl.hid ((Below.refl w.heap.size w).alloc (Nat.le_refl _) (.cells #[.int .u8 13] 5))
    have HX1 : Hid (Lib.BytesIn (w.alloc (.cells #[.int .u8 13] 5)) (some ⟨g, o, none⟩) t.length (Pl.natL t)) := Mm.BytesAt.byteIn (g := g) (o := o) fun hpos => ⟨rfl, HMt.out.keep (HB1.out.block g (HMt.out.lt hpos))⟩
    have HX2 : Hid (Lib.BytesIn (w.alloc (.cells #[.int .u8 13] 5)) (some ⟨w.heap.size, 0, none⟩) 1 [13]) := fun _ => ⟨w.heap.size, 0, rfl, fun i hi => by
      rw [World.cell?_alloc_mark]
      match i, hi with
      | 0, _ => rfl⟩
    have HT := Pl.hid (Pl.trim_cut t g o)
    have hcl := Pl.cutM_len t
    have HCV : Hid ((convert 24 9 (.slice (some ⟨g, o, none⟩) (Pl.cutM t).length t.length)).run Tryd.prog (w.alloc (.cells #[.int .u8 13] 5)) = .ok (.string (Pl.B (Pl.cutM t))) (w.alloc (.cells #[.int .u8 13] 5))) := by
      refine Mm.conv_at _ g o _ _ (Pl.cutM t) rfl ?_
      have := HMt.out.take (Pl.cutM t).length
      rw [← Pl.cutM_take] at this
      rcases Nat.eq_zero_or_pos (Pl.cutM t).length with hz | hz
      · intro j hj
        omega
      · exact this.keep (HB1.out.block g (this.lt hz))
    have hsz : (Pl.B (Pl.cutM t)).size ≤ 4096 := by rw [Pl.B_size]; omega
    have HWB : Hid (Below W.heap.size W (w.alloc (.cells #[.int .u8 13] 5))) := HW.out.trans (HB1.out.mono HW.out.size)
    cases hq : Pl.inl 4098 (Pl.cutM t) [] with
    | mk k ws =>
    cases k with
    | zero =>
      rw [Pl.inlineM_ok HLN.out hq]
      have HQ : Hid (Pl.inl 4098 (Pl.L (Pl.B (Pl.cutM t))) [] = (0, ws)) := by show _ = _; rw [Pl.L_B]; exact hq
      clear hq
      cases ws with
      | nil =>
        rw [if_pos rfl]
        go_enter Tryd.func74, Tryd.ntmps74
        go_wp2_with fail
        refine (line_some _ g o c 4096 4096 rfl l t w hl hc h0 (by decide) HM.out HL.out).mono ?_
        rintro e w1 ⟨rfl, rfl⟩
        go_wp2_with fail
        refine (Tryd.bytes_TrimSuffix_all _ _ t.length t.length 1 1 (Pl.natL t) [13] _ (Pl.natL_length t) rfl (Nat.le_refl _) (by omega) HX1.out HX2.out).mono ?_
        rw [HT.out]
        rintro e w1 ⟨rfl, rfl⟩
        have hcv := HCV.out
        go_wp2_with fail
        clear hcv
        refine (inline_ok _ 4098 [] _ hsz HQ.out).mono ?_
        rintro e w2 ⟨nv, rfl, hown, hb2⟩
        obtain ⟨na, nc, rfl, _⟩ := hown.val
        have HB2 := Pl.hid (HB1.out.trans (hb2.mono HB1.out.size))
        have HV2 := Pl.hid (HV.out.below HB2.out)
        clear hown hb2
        go_wp2_with fail
        go_ret
        exact ⟨rfl, F, ⟨wv, rv, ev, rows, HV2.out, HF.out⟩, Mm.Chg.below HB2.out⟩
      | cons w0 ws =>
        rw [if_neg (by simp)]
        go_enter Tryd.func74, Tryd.ntmps74
        go_wp2_with fail
        refine (line_some _ g o c 4096 4096 rfl l t w hl hc h0 (by decide) HM.out HL.out).mono ?_
        rintro e w1 ⟨rfl, rfl⟩
        go_wp2_with fail
        refine (Tryd.bytes_TrimSuffix_all _ _ t.length t.length 1 1 (Pl.natL t) [13] _ (Pl.natL_length t) rfl (Nat.le_refl _) (by omega) HX1.out HX2.out).mono ?_
        rw [HT.out]
        rintro e w1 ⟨rfl, rfl⟩
        have hcv := HCV.out
        go_wp2_with fail
        clear hcv
        refine (inline_ok _ 4098 (w0 :: ws) _ hsz HQ.out).mono ?_
        rintro e w2 ⟨nv, rfl, hown, hb2⟩
        obtain ⟨na, nc, rfl, _⟩ := hown.val
        have HB2 := Pl.hid (HB1.out.trans (hb2.mono HB1.out.size))
        have HV2 := Pl.hid (HV.out.below HB2.out)
        have HO2 : Hid (Mm.OwnS w2 w.heap.size (.slice na (w0 :: ws).length nc) (w0 :: ws)) := hown.base (by simp)
        have c6 := HV2.out.cell 6 rv rfl
        have hpl2 := HV2.out.lt
        have hrb : rows.length < 4398046511103 := by have := HRD.out; omega
        have hnz : (w0 :: ws).length = ws.length + 1 := rfl
        rw [hnz] at HO2 ⊢
        have HPL2 := Pl.hid hpl2
        clear hown hb2 hnz
        go_wp2_with (first
          | (at_builtin; refine Mm.wp_appC _ rfl _ _ (by rfl) w2 (.slice na (ws.length + 1) nc) rfl (p + 1) rv rows (by rfl) HV2.out.2.2.1 (by rfl) (by rfl) hrb hpl2 ?_; intro vy wy hoy hgy haty; obtain ⟨ay, ny, ky, rfl⟩ := Mm.ownsRow_slice hoy; have HOY := Pl.hid hoy; have HGY := Pl.hid (Mm.gDrew hgy); have HATY := Pl.hid haty; clear hoy hgy haty; have HPY := Pl.hid (((HGY.out.block p (by have := HPL2.out; simp; omega) (fun e => by have := (HV2.out.2.2.1.lt p e.symm).1; omega)).trans (Below.heap_alloc _ _ _ HPL2.out)).trans HV2.out.1))
          | (refine Mm.wp_storeF _ rfl 65 _ _ (by rfl) (by kernel_rfl) p 6 90 (Mm.cellsP bv wv rv ev st) _ HPY.out (by rfl) (by rfl) (by simp [Mm.cellsP]) rfl rfl ?_; intro w8 h8 hz8 hg8; have H8 := Pl.hid h8; have HG8 := Pl.hid hg8; clear h8 hz8 hg8))
        go_ret
        refine ⟨rfl, Mm.foot p wv (.slice ay ny ky) (rows ++ [.slice na (ws.length + 1) nc]), ⟨wv, _, ev, _, HV.out.pushed HV2.out HO2.out HOY.out HGY.out HATY.out HG8.out H8.out rfl rfl rfl, rfl⟩, ?_⟩
        rw [HF.out]
        exact Mm.chgP HB2.out (fun g hg => (HO2.out.lt g hg).1) HGY.out HATY.out HG8.out
    | succ k =>
      have hne : (Pl.inl 4098 (Pl.L (Pl.B (Pl.cutM t))) []).1 ≠ 0 := by rw [Pl.L_B, hq]; simp
      have HQ := Pl.hid hne
      rw [Pl.inlineM_bad HLN.out (by rw [hq]; simp)]
      clear hq hne
      go_enter Tryd.func74, Tryd.ntmps74
      go_wp2_with fail
      refine (line_some _ g o c 4096 4096 rfl l t w hl hc h0 (by decide) HM.out HL.out).mono ?_
      rintro e w1 ⟨rfl, rfl⟩
      go_wp2_with fail
      refine (Tryd.bytes_TrimSuffix_all _ _ t.length t.length 1 1 (Pl.natL t) [13] _ (Pl.natL_length t) rfl (Nat.le_refl _) (by omega) HX1.out HX2.out).mono ?_
      rw [HT.out]
      rintro e w1 ⟨rfl, rfl⟩
      have hcv := HCV.out
      go_wp2_with fail
      clear hcv
      refine (HI.out _ _ hsz HWB.out HQ.out).mono ?_
      rintro e w2 ⟨⟨T, xv, rfl⟩, hb2⟩
      have HB2 := Pl.hid (HB1.out.trans (hb2.mono HB1.out.size))
      have HV2 := Pl.hid (HV.out.below HB2.out)
      have hpl2 := HV2.out.lt
      clear hb2
      go_wp2_with (first
        | (refine Mm.wp_storeF _ rfl 53 _ _ (by rfl) (by kernel_rfl) p 7 90 (Mm.cellsP bv wv rv ev st) _ HV2.out.1 (by rfl) (by rfl) (by simp [Mm.cellsP]) rfl rfl ?_; intro w8 h8 hz8 hg8; have H8 := Pl.hid h8; have HG8 := Pl.hid hg8; clear h8 hz8 hg8))
      go_ret
      exact ⟨rfl, F, ⟨wv, rv, .iface T xv, rows, HV2.out.store HG8.out H8.out rfl rfl (.inl ⟨rfl, _, _, rfl⟩), HF.out⟩, (Mm.Chg.below HB2.out).trans (Mm.Chg.grown HG8.out (fun g e => by rw [HF.out]; injection e with e; exact .inl e.symm) (fun _ h => .inl h))⟩
end Go.Proofs.YtakldjdohgmeiaaDoor
