/- A parser's inline and part: Go's inline, part. Conditions stand in each law. A parser's part: Go's part; what a step does to the state, in plain Lean. Conditions stand in each law. A parser's Feed. Conditions stand in each law. A parser that is asked: Go's New, Next, Err, Held; rows of texts. Conditions stand in each law. A parser that is asked, cell by cell; rows of rows of texts. Conditions stand in each law. Conditions stand in each law. -/
import Derived.Test.YtgpbgldnaongnaaGreatDoorBuWireOut4
import Derived.Laws.AppendOwnNone
namespace Go.Proofs.YtgpbgldnaongnaaGreatDoor
open Go.RowKit
set_option maxRecDepth 20000

namespace Pl
theorem trim_cut (t : List UInt8) (g o : Nat) : Lib.trimSuffixV (some ⟨g, o, none⟩) t.length t.length (natL t) [13] = .slice (some ⟨g, o, none⟩) (cutM t).length t.length := by
  cases h : crB t with
  | false => rw [trim_no h]; unfold cutM; rw [h]; rfl
  | true =>
    obtain ⟨k, hk⟩ : ∃ k, t.length = k + 1 := ⟨t.length - 1, by have := crB_pos h; omega⟩
    rw [hk, trim_yes h]
    unfold cutM
    rw [h, if_pos rfl, List.length_dropLast, hk]
    rfl
theorem cutM_len (t : List UInt8) : (cutM t).length ≤ t.length := by unfold cutM; split <;> simp
theorem cutM_take (t : List UInt8) : cutM t = t.take (cutM t).length := by
  unfold cutM
  split
  · rw [List.length_dropLast, ← List.dropLast_eq_take]
  · simp
theorem inlineM_none {st : Pst} {l : List UInt8} (h : lineM l 4096 = none) : inlineM st l = (0, { st with err := decide (4096 < l.length) }) := by unfold inlineM; rw [h]
theorem inlineM_ok {st : Pst} {l t : List UInt8} {ws : List (List UInt8)} (h : lineM l 4096 = some t) (hq : inl 4098 (cutM t) [] = (0, ws)) : inlineM st l = (t.length + 1, if ws = [] then st else { st with ready := st.ready ++ [ws] }) := by
  unfold inlineM
  rw [h]
  simp only
  rw [hq]
  rfl
theorem inlineM_bad {st : Pst} {l t : List UInt8} (h : lineM l 4096 = some t) (hq : (inl 4098 (cutM t) []).1 ≠ 0) : inlineM st l = (0, { st with err := true }) := by
  unfold inlineM
  rw [h]
  simp only
  split
  · rename_i e
    rw [e] at hq
    exact absurd rfl hq
  · rfl
end Pl
namespace Mm
open Pl
theorem gDrew {a b : World} {o : Obj} {r : Option Nat} (h : (a.alloc o).grownBy b r) : (a.drew.alloc o).grownBy b r := ⟨h.os, h.tape, h.output, h.size, h.block⟩
theorem OwnS.base {w : World} {b b' : Nat} {v : Value} {l : List (List UInt8)} (h : OwnS w b v l) (hb : b' ≤ b) : OwnS w b' v l := by
  obtain ⟨hl, h0 | ⟨g, cap, cur, hv, hg, r⟩⟩ := h
  · exact ⟨hl, .inl h0⟩
  · exact ⟨hl, .inr ⟨g, cap, cur, hv, Nat.le_trans hb hg, r⟩⟩
/-- 'append(ready, words)' -/
theorem wp_appC {ops : Array Oper} {rest : List Oper} {o : Oper} {a : Act} {Q : Exit → Act → World → Prop} (w : World) (hgd : o.guard = none) (x y : Operand)
    (ho : o.op = .call { callee := .builtin .append, args := #[x, y], argTypes := #[62, 62] })
    (w1 : World) (u : Value) (hu : u.oneCell' = true) (base : Nat) (v : Value) (xs : List Value) (hx : a.eval x = v) (h : w1.ownsRow base 39 1 v xs.length xs) (hy : a.eval y = .slice (some ⟨w1.heap.size, 0, none⟩) 1 1) (hw : w = w1.alloc (.cells #[u] 39))
    (hl : xs.length < 4398046511103) (hbase : base ≤ w1.heap.size)
    (hK : ∀ v' w', w'.ownsRow base 39 1 v' (xs ++ [u]).length (xs ++ [u]) → w.grownBy w' v.ownBlock → (v'.ownBlock = v.ownBlock ∨ v'.ownBlock = some w.heap.size) → wpList Tryz.prog ops Q rest (a.put o.dst v') w') : wpList Tryz.prog ops Q (o :: rest) a w :=
  wpList_plain hgd fun _ hK' => wp0_app1 w x y 62 39 24 (.slice none 0 0) rfl Tryz.info_strs Tryz.underlying62 ho w1 u base v xs hx h hu hy hw (by unfold maxLen; omega) (by omega) hbase fun v' w' h1 h2 h3 => hK' _ _ (hK v' w' h1 h2 h3)
theorem PV.pushed {w0 w w6 w8 : World} {o : Obj} {p : Nat} {bv wv rv ev v6 nv : Value} {st st' : Pst} {rows : List Value} {ws : List (List UInt8)} (h0 : PV w0 p bv st wv rv ev rows) (h : PV w p bv st wv rv ev rows) (hn : OwnS w w0.heap.size nv ws)
    (ho : w6.ownsRow (p + 1) 39 1 v6 (rows ++ [nv]).length (rows ++ [nv])) (hg : (w.drew.alloc o).grownBy w6 rv.ownBlock)
    (hat : v6.ownBlock = rv.ownBlock ∨ v6.ownBlock = some (w.drew.alloc o).heap.size) (h8 : w6.grownBy w8 (some p)) (hp : w8.heap[p]? = some (.cells (cellsP bv wv v6 ev st') 64 (0, 0)))
    (h1 : st'.words = st.words) (h2 : st'.ready = st.ready ++ [ws]) (h3 : st'.err = st.err) : PV w8 p bv st' wv v6 ev (rows ++ [nv]) := by
  have hs : (w.drew.alloc o).heap.size = w.heap.size + 1 := by simp
  have hp0 := h0.lt
  have hnew : ∀ g, nv.ownBlock = some g → w0.heap.size ≤ g ∧ g < w.heap.size := fun g hg => hn.lt g hg
  have hrow : ∀ v ∈ rows ++ [nv], (∃ l, OwnS w (p + 1) v l) ∧ noA v rv ∧ noA v wv := by
    intro v hv
    rcases List.mem_append.1 hv with hv | hv
    · exact ⟨h.2.2.2.1.row hv, (h.2.2.2.2.2.1 v hv).2, (h.2.2.2.2.2.1 v hv).1⟩
    · obtain rfl : v = nv := by simpa using hv
      refine ⟨⟨_, hn.base (by omega)⟩, fun g e1 e2 => ?_, fun g e1 e2 => ?_⟩
      · have := (h0.2.2.1.lt g e2).2
        have := (hnew g e1).1
        omega
      · have := (h0.2.1.lt g e2).2
        have := (hnew g e1).1
        omega
  refine ⟨hp, ?_, ?_, ?_, ?_, ?_, by rw [h3]; exact h.2.2.2.2.2.2⟩
  · rw [h1]
    exact h.2.1.keep fun g hg' => far w o hg h8 (h.2.1.lt g hg').2 (h.2.1.lt g hg').1 (fun e => h.2.2.2.2.1 g hg' e)
  · exact ownsRow_keep ho fun g hg' => h8.block g (ho.lt g hg').2 (fun e => by injection e with e; have := (ho.lt g hg').1; omega)
  · have k : Rdy w (p + 1) (rows ++ [nv]) (st.ready ++ [ws]) := by
      refine ⟨by simp [h.2.2.2.1.1], fun i l hl => ?_⟩
      rcases Nat.lt_or_ge i st.ready.length with hi | hi
      · rw [List.getElem?_append_left hi] at hl
        obtain ⟨v, e1, e2⟩ := h.2.2.2.1.2 i l hl
        exact ⟨v, by rw [List.getElem?_append_left (by rw [h.2.2.2.1.1]; exact hi)]; exact e1, e2⟩
      · rw [List.getElem?_append_right hi] at hl
        have h0' : i - st.ready.length = 0 := by
          have := (List.getElem?_eq_some_iff.1 hl).1
          simp at this
          omega
        rw [h0'] at hl
        obtain rfl : ws = l := by simpa using hl
        refine ⟨nv, ?_, hn.base (by omega)⟩
        rw [List.getElem?_append_right (by rw [h.2.2.2.1.1]; exact hi), h.2.2.2.1.1, h0']
        rfl
    rw [h2]
    exact k.keep fun v hv g hg' => by
      obtain ⟨⟨l, hl⟩, hn', _⟩ := hrow v hv
      exact far w o hg h8 (hl.lt g hg').2 (hl.lt g hg').1 (fun e => hn' g hg' e)
  · intro g hg1 hg2
    rcases hat with e | e
    · rw [e] at hg2
      exact h.2.2.2.2.1 g hg1 hg2
    · rw [e] at hg2
      injection hg2 with hg2
      have := (h.2.1.lt g hg1).2
      omega
  · intro v hv
    obtain ⟨⟨l, hl⟩, hn', hn''⟩ := hrow v hv
    refine ⟨hn'', fun g hg1 hg2 => ?_⟩
    rcases hat with e | e
    · rw [e] at hg2
      exact hn' g hg1 hg2
    · rw [e] at hg2
      injection hg2 with hg2
      have := (hl.lt g hg1).2
      omega
theorem chgP {w0 w w6 w8 : World} {o : Obj} {p : Nat} {wv rv v6 nv : Value} {rows : List Value} (hb : Below w0.heap.size w0 w) (hn : ∀ g, nv.ownBlock = some g → w0.heap.size ≤ g) (hg : (w.drew.alloc o).grownBy w6 rv.ownBlock) (hat : v6.ownBlock = rv.ownBlock ∨ v6.ownBlock = some (w.drew.alloc o).heap.size) (h8 : w6.grownBy w8 (some p)) : Chg w0 (foot p wv rv rows) w8 (foot p wv v6 (rows ++ [nv])) := by
  have hs : (w.drew.alloc o).heap.size = w.heap.size + 1 := by simp
  have h6 := hg.size
  have h7 := h8.size
  have h5 := hb.size
  refine ⟨h8.os.trans (hg.os.trans hb.os), h8.tape.trans (hg.tape.trans hb.tape), h8.output.trans (hg.output.trans hb.output), by omega, fun g hg0 hf => ?_, fun g hg' => ?_⟩
  · rw [h8.block g (by omega) (fun e => by injection e with e; exact hf (.inl e)), hg.block g (by omega) (fun e => hf (.inr (.inr (.inl e.symm))))]
    exact (Below.heap_alloc w.drew o g (by show g < w.heap.size; omega)).trans (hb.block g hg0)
  · rcases hg' with e | e | e | ⟨v, hv, e⟩
    · exact .inl (.inl e)
    · exact .inl (.inr (.inl e))
    · rcases hat with h | h
      · exact .inl (.inr (.inr (.inl (by rw [← h]; exact e))))
      · rw [h] at e
        injection e with e
        exact .inr (by omega)
    · rcases List.mem_append.1 hv with hv | hv
      · exact .inl (.inr (.inr (.inr ⟨v, hv, e⟩)))
      · obtain rfl : v = nv := by simpa using hv
        exact .inr (hn g e)
/-- a line that is no row of words: some error is told -/
def InlE (W : World) : Prop := ∀ (s : ByteArray) (w : World), s.size ≤ 4096 → Below W.heap.size W w → (inl 4098 (L s) []).1 ≠ 0 →
  Calls Tryz.prog 52 #[.string s] w fun e w' => (∃ T x, e = .returned (.tuple #[.slice none 0 0, .iface T x])) ∧ Below w.heap.size w w'
end Mm

set_option maxHeartbeats 8000000 in
theorem pinline_walk (p g o c : Nat) (l : List UInt8) (bv : Value) (st : Pl.Pst) (F : Nat → Prop) (W w : World) (hpW : W.heap.size ≤ p) (hR : Mm.RErr W) (hI : Mm.InlE W) (hW : Below W.heap.size W w) (hl : l.length ≤ 140737488351232) (hc : l.length ≤ c) (h0 : 0 < l.length) (h : Mm.BytesAt w g o l)
    (hp : Mm.PQ w p bv st F) (he : st.err = false) (hrd : st.ready.length ≤ 1099511627776) :
    Calls Tryz.prog 40 #[.pointer (some ⟨p, 0, none⟩), .slice (some ⟨g, o, none⟩) l.length c] w fun e w' => e = .returned (.int .i64 ((Pl.inlineM st l).1 : Int)) ∧ ∃ F', Mm.PQ w' p bv (Pl.inlineM st l).2 F' ∧ Mm.Chg w F w' F' := by
  have HP := Pl.hid hp
  have HM := Pl.hid h
  have HR := Pl.hid hR
  have HI := Pl.hid hI
  have HW := Pl.hid hW
  have He := Pl.hid he
  have HPW := Pl.hid hpW
  clear hp h hR hI hW he hpW
  cases hline : Pl.lineM l 4096 with
  | none =>
    rw [Pl.inlineM_none hline]
    have HL := Pl.hid hline
    obtain ⟨wv0, rv0, ev0, rows0, hv0, hF⟩ := HP.out
    have HF := Pl.hid hF
    clear hline hv0 hF
    simp only
    go_enter Tryz.func40, Tryz.ntmps40
    go_wp2_with fail
    refine (line_none p g o c 4096 4096 rfl l bv st F W w HR.out HW.out hl hc (by decide) HM.out HL.out HP.out He.out).mono ?_
    rintro e w1 ⟨rfl, hp1, hg1⟩
    have HP1 := Pl.hid hp1
    have HG1 := Pl.hid hg1
    clear hp1 hg1
    go_wp2_with fail
    go_ret
    exact ⟨rfl, F, HP1.out, Mm.Chg.grown HG1.out (fun g e => by rw [HF.out]; injection e with e; exact .inl e.symm) (fun _ h => .inl h)⟩
  | some t =>
    have HL := Pl.hid hline
    obtain ⟨_, _, ht, htl, ht46⟩ := Pl.lineM_some hline
    have HMt : Hid (Mm.BytesAt w g o t) := by
      have := HM.out.take t.length
      rwa [← ht] at this
    have htc : t.length ≤ c := by omega
    have HLN := Pl.hid hline
    clear hline ht
    obtain ⟨wv, rv, ev, rows, hv, hF⟩ := HP.out
    have HV := Pl.hid hv
    have HF := Pl.hid hF
    have HRD : Hid (rows.length ≤ 1099511627776) := by show _ ≤ _; rw [hv.2.2.2.1.1]; exact hrd
    clear hv hF hrd HP
    have HB1 := Pl.hid ((Below.refl w.heap.size w).alloc (Nat.le_refl _) (.cells #[.int .u8 13] 5))
    have HX1 : Hid (Lib.BytesIn (w.alloc (.cells #[.int .u8 13] 5)) (some ⟨g, o, none⟩) t.length (Pl.natL t)) := Mm.BytesAt.byteIn (g := g) (o := o) fun hpos => ⟨rfl, HMt.out.keep (HB1.out.block g (HMt.out.lt hpos))⟩
    have HX2 : Hid (Lib.BytesIn (w.alloc (.cells #[.int .u8 13] 5)) (some ⟨w.heap.size, 0, none⟩) 1 [13]) := fun _ => ⟨w.heap.size, 0, rfl, fun i hi => by
      rw [World.cell?_alloc_mark]
      match i, hi with
      | 0, _ => rfl⟩
    have HT := Pl.hid (Pl.trim_cut t g o)
    have hcl := Pl.cutM_len t
    have HCV : Hid ((convert 23 9 (.slice (some ⟨g, o, none⟩) (Pl.cutM t).length t.length)).run Tryz.prog (w.alloc (.cells #[.int .u8 13] 5)) = .ok (.string (Pl.B (Pl.cutM t))) (w.alloc (.cells #[.int .u8 13] 5))) := by
      refine Mm.conv_at _ g o _ _ (Pl.cutM t) rfl ?_
      have := HMt.out.take (Pl.cutM t).length
      rw [← Pl.cutM_take] at this
      rcases Nat.eq_zero_or_pos (Pl.cutM t).length with hz | hz
      · intro j hj
        omega
      · exact this.keep (HB1.out.block g (this.lt hz))
    have hsz : (Pl.B (Pl.cutM t)).size ≤ 4096 := by rw [Pl.B_size]; omega
    have HWB : Hid (Below W.heap.size W (w.alloc (.cells #[.int .u8 13] 5))) := HW.out.trans (HB1.out.mono HW.out.size)
    cases hq : Pl.inl 4098 (Pl.cutM t) [] with
    | mk k ws =>
    cases k with
    | zero =>
      rw [Pl.inlineM_ok HLN.out hq]
      have HQ : Hid (Pl.inl 4098 (Pl.L (Pl.B (Pl.cutM t))) [] = (0, ws)) := by show _ = _; rw [Pl.L_B]; exact hq
      clear hq
      cases ws with
      | nil =>
        rw [if_pos rfl]
        go_enter Tryz.func40, Tryz.ntmps40
        go_wp2_with fail
        refine (line_some _ g o c 4096 4096 rfl l t w hl hc h0 (by decide) HM.out HL.out).mono ?_
        rintro e w1 ⟨rfl, rfl⟩
        go_wp2_with fail
        refine (Tryz.bytes_TrimSuffix_all _ _ t.length t.length 1 1 (Pl.natL t) [13] _ (Pl.natL_length t) rfl (Nat.le_refl _) (by omega) HX1.out HX2.out).mono ?_
        rw [HT.out]
        rintro e w1 ⟨rfl, rfl⟩
        have hcv := HCV.out
        go_wp2_with fail
        clear hcv
        refine (inline_ok _ 4098 [] _ hsz HQ.out).mono ?_
        rintro e w2 ⟨nv, rfl, hown, hb2⟩
        obtain ⟨na, nc, rfl, _⟩ := hown.val
        have HB2 := Pl.hid (HB1.out.trans (hb2.mono HB1.out.size))
        have HV2 := Pl.hid (HV.out.below HB2.out)
        clear hown hb2
        go_wp2_with fail
        go_ret
        exact ⟨rfl, F, ⟨wv, rv, ev, rows, HV2.out, HF.out⟩, Mm.Chg.below HB2.out⟩
      | cons w0 ws =>
        rw [if_neg (by simp)]
        go_enter Tryz.func40, Tryz.ntmps40
        go_wp2_with fail
        refine (line_some _ g o c 4096 4096 rfl l t w hl hc h0 (by decide) HM.out HL.out).mono ?_
        rintro e w1 ⟨rfl, rfl⟩
        go_wp2_with fail
        refine (Tryz.bytes_TrimSuffix_all _ _ t.length t.length 1 1 (Pl.natL t) [13] _ (Pl.natL_length t) rfl (Nat.le_refl _) (by omega) HX1.out HX2.out).mono ?_
        rw [HT.out]
        rintro e w1 ⟨rfl, rfl⟩
        have hcv := HCV.out
        go_wp2_with fail
        clear hcv
        refine (inline_ok _ 4098 (w0 :: ws) _ hsz HQ.out).mono ?_
        rintro e w2 ⟨nv, rfl, hown, hb2⟩
        obtain ⟨na, nc, rfl, _⟩ := hown.val
        have HB2 := Pl.hid (HB1.out.trans (hb2.mono HB1.out.size))
        have HV2 := Pl.hid (HV.out.below HB2.out)
        have HO2 : Hid (Mm.OwnS w2 w.heap.size (.slice na (w0 :: ws).length nc) (w0 :: ws)) := hown.base (by simp)
        have c6 := HV2.out.cell 6 rv rfl
        have hpl2 := HV2.out.lt
        have hrb : rows.length < 4398046511103 := by have := HRD.out; omega
        have hnz : (w0 :: ws).length = ws.length + 1 := rfl
        rw [hnz] at HO2 ⊢
        have HPL2 := Pl.hid hpl2
        clear hown hb2 hnz
        go_wp2_with (first
          | (at_builtin; refine Mm.wp_appC _ rfl _ _ (by rfl) w2 (.slice na (ws.length + 1) nc) rfl (p + 1) rv rows (by rfl) HV2.out.2.2.1 (by rfl) (by rfl) hrb hpl2 ?_; intro vy wy hoy hgy haty; obtain ⟨ay, ny, ky, rfl⟩ := Mm.ownsRow_slice hoy; have HOY := Pl.hid hoy; have HGY := Pl.hid (Mm.gDrew hgy); have HATY := Pl.hid haty; clear hoy hgy haty; have HPY := Pl.hid (((HGY.out.block p (by have := HPL2.out; simp; omega) (fun e => by have := (HV2.out.2.2.1.lt p e.symm).1; omega)).trans (Below.heap_alloc _ _ _ HPL2.out)).trans HV2.out.1))
          | (refine Mm.wp_storeF _ rfl 62 _ _ (by rfl) (by kernel_rfl) p 6 64 (Mm.cellsP bv wv rv ev st) _ HPY.out (by rfl) (by rfl) (by simp [Mm.cellsP]) rfl rfl ?_; intro w8 h8 hz8 hg8; have H8 := Pl.hid h8; have HG8 := Pl.hid hg8; clear h8 hz8 hg8))
        go_ret
        refine ⟨rfl, Mm.foot p wv (.slice ay ny ky) (rows ++ [.slice na (ws.length + 1) nc]), ⟨wv, _, ev, _, HV.out.pushed HV2.out HO2.out HOY.out HGY.out HATY.out HG8.out H8.out rfl rfl rfl, rfl⟩, ?_⟩
        rw [HF.out]
        exact Mm.chgP HB2.out (fun g hg => (HO2.out.lt g hg).1) HGY.out HATY.out HG8.out
    | succ k =>
      have hne : (Pl.inl 4098 (Pl.L (Pl.B (Pl.cutM t))) []).1 ≠ 0 := by rw [Pl.L_B, hq]; simp
      have HQ := Pl.hid hne
      rw [Pl.inlineM_bad HLN.out (by rw [hq]; simp)]
      clear hq hne
      go_enter Tryz.func40, Tryz.ntmps40
      go_wp2_with fail
      refine (line_some _ g o c 4096 4096 rfl l t w hl hc h0 (by decide) HM.out HL.out).mono ?_
      rintro e w1 ⟨rfl, rfl⟩
      go_wp2_with fail
      refine (Tryz.bytes_TrimSuffix_all _ _ t.length t.length 1 1 (Pl.natL t) [13] _ (Pl.natL_length t) rfl (Nat.le_refl _) (by omega) HX1.out HX2.out).mono ?_
      rw [HT.out]
      rintro e w1 ⟨rfl, rfl⟩
      have hcv := HCV.out
      go_wp2_with fail
      clear hcv
      refine (HI.out _ _ hsz HWB.out HQ.out).mono ?_
      rintro e w2 ⟨⟨T, xv, rfl⟩, hb2⟩
      have HB2 := Pl.hid (HB1.out.trans (hb2.mono HB1.out.size))
      have HV2 := Pl.hid (HV.out.below HB2.out)
      have hpl2 := HV2.out.lt
      clear hb2
      go_wp2_with (first
        | (refine Mm.wp_storeF _ rfl 60 _ _ (by rfl) (by kernel_rfl) p 7 64 (Mm.cellsP bv wv rv ev st) _ HV2.out.1 (by rfl) (by rfl) (by simp [Mm.cellsP]) rfl rfl ?_; intro w8 h8 hz8 hg8; have H8 := Pl.hid h8; have HG8 := Pl.hid hg8; clear h8 hz8 hg8))
      go_ret
      exact ⟨rfl, F, ⟨wv, rv, .iface T xv, rows, HV2.out.store HG8.out H8.out rfl rfl (.inl ⟨rfl, _, _, rfl⟩), HF.out⟩, (Mm.Chg.below HB2.out).trans (Mm.Chg.grown HG8.out (fun g e => by rw [HF.out]; injection e with e; exact .inl e.symm) (fun _ h => .inl h))⟩
end Go.Proofs.YtgpbgldnaongnaaGreatDoor

namespace Go.Proofs.YtgpbgldnaongnaaGreatDoor
open Go.RowKit
set_option maxRecDepth 20000

namespace Pl
/-- a state that a parser may be in -/
def okP (st : Pst) : Prop := -1 ≤ st.need ∧ st.need ≤ 1048576 ∧ st.left ≤ 1024 ∧ (0 ≤ st.need → 0 < st.left) ∧ (st.err = false → st.size ≤ 4194304)
def bnd (st : Pst) (U : Nat) : Prop := st.used ≤ U ∧ st.words.length ≤ U ∧ st.ready.length ≤ U
theorem okP_fresh : okP fresh := by unfold okP fresh; simp
theorem count_ok {st : Pst} {l : List UInt8} (h : okP st) (_ : st.need < 0) (he : st.err = false) : okP (countM st l).2 ∧ (countM st l).1 ≤ l.length ∧ ∀ U, bnd st U → bnd (countM st l).2 (U + (countM st l).1) := by
  obtain ⟨h1, h2, h3, h4, h5⟩ := h
  unfold countM
  cases hq : numM l (-1) 1024 with
  | mk q e =>
  cases q with
  | none => exact ⟨⟨h1, h2, h3, h4, fun _ => h5 he⟩, Nat.zero_le _, fun U hU => hU⟩
  | some nk =>
    obtain ⟨n, k⟩ := nk
    obtain ⟨g1, g2, g3, g4, g5⟩ := numM_in hq
    simp only
    split
    · refine ⟨⟨h1, h2, ?_, fun _ => ?_, fun _ => ?_⟩, g5, fun U hU => ⟨?_, ?_, ?_⟩⟩
      · show n.toNat ≤ 1024; omega
      · show 0 < n.toNat; omega
      · show 0 ≤ 4194304; omega
      · show k ≤ U + k; omega
      · exact Nat.zero_le _
      · have := hU.2.2; show st.ready.length ≤ U + k; omega
    · exact ⟨⟨h1, h2, h3, h4, h5⟩, g5, fun U hU => ⟨by have := hU.1; omega, by have := hU.2.1; omega, by have := hU.2.2; omega⟩⟩
theorem length_ok {st : Pst} {l : List UInt8} (h : okP st) (hl : 0 < st.left) (he : st.err = false) : okP (lengthM st l).2 ∧ (lengthM st l).1 ≤ l.length ∧ ∀ U, bnd st U → bnd (lengthM st l).2 (U + (lengthM st l).1) := by
  obtain ⟨h1, h2, h3, h4, h5⟩ := h
  unfold lengthM
  split
  · exact ⟨⟨h1, h2, h3, h4, fun e => by cases e⟩, Nat.zero_le _, fun U hU => hU⟩
  · cases hq : numM l 0 1048576 with
    | mk q e =>
    cases q with
    | none => exact ⟨⟨h1, h2, h3, h4, fun _ => h5 he⟩, Nat.zero_le _, fun U hU => hU⟩
    | some nk =>
      obtain ⟨n, k⟩ := nk
      obtain ⟨g1, g2, g3, g4, g5⟩ := numM_in hq
      simp only
      split
      · exact ⟨⟨h1, h2, h3, h4, fun e => by cases e⟩, Nat.zero_le _, fun U hU => hU⟩
      · refine ⟨⟨?_, g2, h3, fun _ => hl, fun _ => ?_⟩, g5, fun U hU => ⟨?_, ?_, ?_⟩⟩
        · show -1 ≤ n; omega
        · show st.size + n.toNat ≤ 4194304; omega
        · have := hU.1; show st.used + k ≤ U + k; omega
        · have := hU.2.1; show st.words.length ≤ U + k; omega
        · have := hU.2.2; show st.ready.length ≤ U + k; omega
theorem word_ok {st : Pst} {l : List UInt8} (h : okP st) (_ : st.err = false) : okP (wordM st l).2 ∧ (wordM st l).1 ≤ l.length ∧ ∀ U, bnd st U → bnd (wordM st l).2 (U + (wordM st l).1) := by
  obtain ⟨h1, h2, h3, h4, h5⟩ := h
  unfold wordM
  split
  · exact ⟨⟨h1, h2, h3, h4, fun e => by cases e⟩, Nat.zero_le _, fun U hU => hU⟩
  · split
    · exact ⟨⟨h1, h2, h3, h4, h5⟩, Nat.zero_le _, fun U hU => hU⟩
    · rename_i hlen
      simp only
      split
      · refine ⟨⟨by show (-1 : Int) ≤ -1; omega, by show (-1 : Int) ≤ 1048576; omega, Nat.zero_le _, fun e => absurd e (by show ¬ (0 : Int) ≤ -1; omega), h5⟩, by omega, fun U hU => ⟨Nat.zero_le _, Nat.zero_le _, ?_⟩⟩
        have := hU.2.2
        simp
        omega
      · refine ⟨⟨by show (-1 : Int) ≤ -1; omega, by show (-1 : Int) ≤ 1048576; omega, by show st.left - 1 ≤ 1024; omega, fun e => absurd e (by show ¬ (0 : Int) ≤ -1; omega), h5⟩, by omega, fun U hU => ⟨?_, ?_, ?_⟩⟩
        · have := hU.1; show st.used + (st.need.toNat + 2) ≤ U + (st.need.toNat + 2); omega
        · have := hU.2.1; simp; omega
        · have := hU.2.2; show st.ready.length ≤ U + (st.need.toNat + 2); omega
theorem inline_okP {st : Pst} {l : List UInt8} (h : okP st) (he : st.err = false) : okP (inlineM st l).2 ∧ (inlineM st l).1 ≤ l.length ∧ ∀ U, bnd st U → bnd (inlineM st l).2 (U + (inlineM st l).1) := by
  obtain ⟨h1, h2, h3, h4, h5⟩ := h
  cases hq : lineM l 4096 with
  | none => rw [inlineM_none hq]; exact ⟨⟨h1, h2, h3, h4, fun _ => h5 he⟩, Nat.zero_le _, fun U hU => hU⟩
  | some t =>
    obtain ⟨_, _, _, ht, _⟩ := lineM_some hq
    cases hi : inl 4098 (cutM t) [] with
    | mk k ws =>
    cases k with
    | zero =>
      rw [inlineM_ok hq hi]
      simp only
      split
      · exact ⟨⟨h1, h2, h3, h4, h5⟩, ht, fun U hU => ⟨by have := hU.1; omega, by have := hU.2.1; omega, by have := hU.2.2; omega⟩⟩
      · refine ⟨⟨h1, h2, h3, h4, h5⟩, ht, fun U hU => ⟨?_, ?_, ?_⟩⟩
        · have := hU.1; show st.used ≤ U + (t.length + 1); omega
        · have := hU.2.1; show st.words.length ≤ U + (t.length + 1); omega
        · have := hU.2.2; simp; omega
    | succ k =>
      rw [inlineM_bad hq (by rw [hi]; simp)]
      exact ⟨⟨h1, h2, h3, h4, fun e => by cases e⟩, Nat.zero_le _, fun U hU => hU⟩
theorem part_ok {st : Pst} {l : List UInt8} (h : okP st) (he : st.err = false) : okP (partM st l).2 ∧ (partM st l).1 ≤ l.length ∧ ∀ U, bnd st U → bnd (partM st l).2 (U + (partM st l).1) := by
  unfold partM
  split
  · exact ⟨h, Nat.zero_le _, fun U hU => hU⟩
  · split
    · exact word_ok h he
    · split
      · rename_i hl; exact length_ok h hl he
      · split
        · exact count_ok h (by omega) he
        · exact inline_okP h he
end Pl

set_option maxHeartbeats 4000000 in
theorem part_walk (p : Nat) (v : Value) (l : List UInt8) (bv : Value) (st : Pl.Pst) (F : Nat → Prop) (W w : World) (hpW : W.heap.size ≤ p) (hR : Mm.RErr W) (hE : Mm.Errs W) (hI : Mm.InlE W) (hW : Below W.heap.size W w) (hl : l.length ≤ 140737488351232) (hv : Mm.Rest w v l)
    (hp : Mm.PQ w p bv st F) (he : st.err = false) (hok : Pl.okP st) (U : Nat) (hb : Pl.bnd st U) (hU : U ≤ 1099511627776) :
    Calls Tryz.prog 32 #[.pointer (some ⟨p, 0, none⟩), v] w fun e w' => e = .returned (.int .i64 ((Pl.partM st l).1 : Int)) ∧ ∃ F', Mm.PQ w' p bv (Pl.partM st l).2 F' ∧ Mm.Chg w F w' F' := by
  obtain ⟨a, c, rfl, hc, hbytes⟩ := hv
  obtain ⟨h1, h2, h3, h4, h5⟩ := hok
  obtain ⟨b1, b2, b3⟩ := hb
  unfold Pl.partM
  rcases Nat.eq_zero_or_pos l.length with h0 | h0
  · obtain rfl : l = [] := List.eq_nil_of_length_eq_zero h0
    rw [if_pos rfl]
    have HP := Pl.hid hp
    clear hR hE hI hW hp h4 h5 hbytes hpW
    go_enter Tryz.func32, Tryz.ntmps32
    go_wp2_with fail
    go_ret
    exact ⟨rfl, F, HP.out, Mm.Chg.refl _ _⟩
  · rw [if_neg (fun e => by rw [e] at h0; exact absurd h0 (by simp))]
    obtain ⟨g, o, rfl, hm⟩ := hbytes h0
    have hpv := hp
    obtain ⟨wv, rv, ev, rows, hv, hF⟩ := hpv
    have c5 := hv.cell 5 (.int .i64 st.need) rfl
    have c3 := hv.cell 3 (.int .i64 (st.left : Int)) rfl
    have c0 := hm 0 h0
    rw [Nat.add_zero] at c0
    have hlz : ¬ ((l.length : Int) = 0) := by omega
    clear hv hF
    rcases Int.lt_or_le st.need 0 with hn | hn
    · rw [if_neg (by omega)]
      rcases Nat.eq_zero_or_pos st.left with hf | hf
      · rw [if_neg (by omega)]
        have hl0 : (st.left : Int) = 0 := by omega
        rw [hl0] at c3
        rcases Decidable.em (l.head? = some 42) with h42 | h42
        · rw [if_pos h42]
          have HC := Pl.hid (count_walk p g o c l bv st F W w hR hE hW hl hc h0 hm hp he)
          have hq : (Pl.at_ l 0 == 42) = true := by
            cases l with
            | nil => exact absurd h0 (by simp)
            | cons d l =>
              injection h42 with h42
              subst h42
              rfl
          generalize Pl.at_ l 0 = a0 at c0 hq
          clear hR hE hI hW hp hm h42 h4 h5 he hl0 hf hpW
          go_enter Tryz.func32, Tryz.ntmps32
          go_wp2_with fail
          refine HC.out.mono ?_
          rintro e w1 ⟨rfl, F', hp1, hg1⟩
          have HP1 := Pl.hid hp1
          have HG1 := Pl.hid hg1
          clear hp1 hg1 c5 c3 c0 hq
          go_wp2_with fail
          go_ret
          exact ⟨rfl, F', HP1.out, HG1.out⟩
        · rw [if_neg h42]
          have HC := Pl.hid (pinline_walk p g o c l bv st F W w hpW hR hI hW hl hc h0 hm hp he (by omega))
          have hq : (Pl.at_ l 0 == 42) = false := by
            refine beq_eq_false_iff_ne.2 fun e => h42 ?_
            cases l with
            | nil => exact absurd h0 (by simp)
            | cons d l => exact congrArg some (UInt8.toNat_inj.1 (by have : ((d.toNat : Nat) : Int) = 42 := e; show d.toNat = 42; omega))
          generalize Pl.at_ l 0 = a0 at c0 hq
          clear hR hE hI hW hp hm h42 h4 h5 he hl0 hf hpW
          go_enter Tryz.func32, Tryz.ntmps32
          go_wp2_with fail
          refine HC.out.mono ?_
          rintro e w1 ⟨rfl, F', hp1, hg1⟩
          have HP1 := Pl.hid hp1
          have HG1 := Pl.hid hg1
          clear hp1 hg1 c5 c3 c0 hq
          go_wp2_with fail
          go_ret
          exact ⟨rfl, F', HP1.out, HG1.out⟩
      · rw [if_pos hf]
        have HC := Pl.hid (length_walk p g o c l bv st F W w hpW hR hE hW hl hc h0 hm hp he (h5 he) (by omega))
        clear hR hE hI hW hp hm h4 h5 he c0 hpW
        go_enter Tryz.func32, Tryz.ntmps32
        go_wp2_with fail
        refine HC.out.mono ?_
        rintro e w1 ⟨rfl, F', hp1, hg1⟩
        have HP1 := Pl.hid hp1
        have HG1 := Pl.hid hg1
        clear hp1 hg1 c5 c3
        go_wp2_with fail
        go_ret
        exact ⟨rfl, F', HP1.out, HG1.out⟩
    · rw [if_pos hn]
      have HC := Pl.hid (word_walk p g o c l bv st F W w hpW hR hW hl hc hm hp he hn h2 (h4 hn) h3 (by omega) (by omega) (by omega))
      clear hR hE hI hW hp hm h4 h5 he c0 hpW c3
      go_enter Tryz.func32, Tryz.ntmps32
      go_wp2_with fail
      refine HC.out.mono ?_
      rintro e w1 ⟨rfl, F', hp1, hg1⟩
      have HP1 := Pl.hid hp1
      have HG1 := Pl.hid hg1
      clear hp1 hg1 c5
      go_wp2_with fail
      go_ret
      exact ⟨rfl, F', HP1.out, HG1.out⟩
end Go.Proofs.YtgpbgldnaongnaaGreatDoor

namespace Go.Proofs.YtgpbgldnaongnaaGreatDoor
open Go.RowKit
set_option maxRecDepth 20000

namespace Pl
def feedA (st : Pst) (buf b : List UInt8) : Pst × List UInt8 :=
  if (feedM ((buf ++ b).length + 1) st (buf ++ b)).1.err = true then ({ (feedM ((buf ++ b).length + 1) st (buf ++ b)).1 with used := 0, words := [] }, []) else feedM ((buf ++ b).length + 1) st (buf ++ b)
theorem feedM_err {f : Nat} {st : Pst} {l : List UInt8} (h : st.err = true) : feedM (f + 1) st l = (st, l) := by unfold feedM; rw [if_pos h]
theorem feedM_stop {f : Nat} {st : Pst} {l : List UInt8} (h : st.err = false) (hn : (partM st l).1 = 0) : feedM (f + 1) st l = ((partM st l).2, l) := by unfold feedM; rw [if_neg (by rw [h]; simp), if_pos hn]
theorem feedM_go {f : Nat} {st : Pst} {l : List UInt8} (h : st.err = false) (hn : (partM st l).1 ≠ 0) : feedM (f + 1) st l = feedM f (partM st l).2 (l.drop (partM st l).1) := by
  conv => lhs; unfold feedM
  rw [if_neg (by rw [h]; simp), if_neg hn]
theorem feedA_err {st st' : Pst} {buf b T r : List UInt8} (h : buf ++ b = T) (hf : feedM (T.length + 1) st T = (st', r)) (he : st'.err = true) : feedA st buf b = ({ st' with used := 0, words := [] }, []) := by
  unfold feedA
  rw [h, hf]
  exact if_pos he
theorem feedA_ok {st st' : Pst} {buf b T r : List UInt8} (h : buf ++ b = T) (hf : feedM (T.length + 1) st T = (st', r)) (he : st'.err = false) : feedA st buf b = (st', r) := by
  unfold feedA
  rw [h, hf]
  exact if_neg (by rw [he]; simp)
end Pl

namespace Mm
open Pl
/-- a slice of bytes that came in -/
def Bs (w : World) (v : Value) (l : List UInt8) : Prop := ∃ a c, v = .slice a l.length c ∧ l.length ≤ c ∧ (a = none → c = 0) ∧ (0 < l.length → ∃ g o, a = some ⟨g, o, none⟩ ∧ BytesAt w g o l)
theorem Bs.rest {w : World} {v : Value} {l : List UInt8} (h : Bs w v l) : Rest w v l := by
  obtain ⟨a, c, h1, h2, _, h4⟩ := h
  exact ⟨a, c, h1, h2, h4⟩
theorem OwnB.bs {w : World} {b : Nat} {v : Value} {l : List UInt8} (h : OwnB w b v l) : Bs w v l := by
  obtain ⟨a, c, rfl, h0 | ⟨g, rfl, _, hg, hle⟩⟩ := h.val
  · exact ⟨_, _, rfl, by omega, fun _ => h0.2.2, fun h => by omega⟩
  · exact ⟨_, _, rfl, hle, fun e => (by cases e), fun _ => ⟨g, 0, rfl, h.bytesAt⟩⟩
theorem Bs.keep {w w' : World} {v : Value} {l : List UInt8} (h : Bs w v l) (hb : ∀ a n c g o, v = .slice a n c → a = some ⟨g, o, none⟩ → 0 < n → g < w.heap.size → w'.heap[g]? = w.heap[g]?) : Bs w' v l := by
  obtain ⟨a, c, h1, h2, h3, h4⟩ := h
  refine ⟨a, c, h1, h2, h3, fun hl => ?_⟩
  obtain ⟨g, o, e, hm⟩ := h4 hl
  exact ⟨g, o, e, hm.keep (hb a _ c g o h1 e hl (hm.lt hl))⟩
/-- 'append(s, b...)' -/
theorem wp_appW {ops : Array Oper} {rest : List Oper} {o : Oper} {a : Act} {Q : Exit → Act → World → Prop} (w : World) (hgd : o.guard = none) (x y : Operand)
    (ho : o.op = .call { callee := .builtin .append, args := #[x, y], argTypes := #[23, 23] })
    (base : Nat) (v : Value) (l : List UInt8) (hx : a.eval x = v) (h : OwnB w base v l) (vy : Value) (m : List UInt8) (hy : a.eval y = vy) (hm : Bs w vy m)
    (hl : l.length + m.length ≤ 140737488355328) (hbase : base ≤ w.heap.size)
    (hK : ∀ v' w', OwnB w' base v' (l ++ m) → w.grownBy w' v.ownBlock → (v'.ownBlock = v.ownBlock ∨ v'.ownBlock = some w.heap.size) → wpList Tryz.prog ops Q rest (a.put o.dst v') w') :
    wpList Tryz.prog ops Q (o :: rest) a w := by
  obtain ⟨i0, hi, hz0, hz1, hz2⟩ := info_parts Tryz.info_u8
  obtain ⟨p, c, rfl, hc, hn, hb⟩ := hm
  have hlen : (bytesV m).length = m.length := by simp [bytesV]
  cases p with
  | none =>
    obtain rfl := hn rfl
    have h0 : m.length = 0 := by omega
    obtain rfl : m = [] := List.eq_nil_of_length_eq_zero h0
    refine wpList_append_own_none hgd x y 23 ho base 5 i0 1 Tryz.underlying23 hi v l.length (bytesV l) hx h hy ?_
    exact hK v w (by rw [List.append_nil]; exact h) ⟨rfl, rfl, rfl, Nat.le_refl _, fun _ _ _ => rfl⟩ (.inl rfl)
  | some ad =>
    refine wpList_append_own_at _ hgd x y 23 ho base 5 i0 (.int .u8 0) 1 1 Tryz.underlying23 hi hz0 hz1 hz2 rfl (by decide) v l.length (bytesV l) hx h ad m.length c (bytesV m) hy (by rw [hlen]; omega) ?_ (bytesV_one m) ?_ (by omega) hbase ?_
    · intro j u hj
      have hj' : j < m.length := by
        have := (List.getElem?_eq_some_iff.1 hj).1
        simpa [bytesV] using this
      obtain ⟨g, off, e, hm⟩ := hb (by omega)
      injection e with e
      subst e
      have e : (⟨g, off, none⟩ : Addr).add j = ⟨g, off + j, none⟩ := by unfold Addr.add; split <;> simp_all
      rw [e, hm j hj']
      simp only [bytesV, List.getElem?_map, List.getElem?_eq_getElem hj', Option.map_some, Option.some.injEq] at hj
      rw [← hj]
      unfold at_ byteV
      rw [List.getD_eq_getElem?_getD, List.getElem?_eq_getElem hj']
      rfl
    · unfold maxLen; omega
    · intro v' w' h1 h2 _ h4
      refine hK v' w' ?_ h2 h4
      unfold OwnB
      rw [bytesV_append, List.length_append]
      exact h1
theorem PQ.lt {w : World} {p : Nat} {bv : Value} {st : Pst} {F : Nat → Prop} (h : PQ w p bv st F) (g : Nat) (hg : F g) : p ≤ g ∧ g < w.heap.size := by
  obtain ⟨wv, rv, ev, rows, h, rfl⟩ := h
  rcases hg with rfl | hg | hg | ⟨v, hv, hg⟩
  · exact ⟨Nat.le_refl _, h.lt⟩
  · have := h.2.1.lt g hg; omega
  · have := h.2.2.1.lt g hg; omega
  · obtain ⟨l, hl⟩ := h.2.2.2.1.row hv
    have := hl.lt g hg
    omega
theorem PQ.own {w : World} {p : Nat} {bv : Value} {st : Pst} {F : Nat → Prop} (h : PQ w p bv st F) : F p := by
  obtain ⟨wv, rv, ev, rows, h, rfl⟩ := h
  exact .inl rfl
theorem PV.keepF {w w' : World} {p : Nat} {bv wv rv ev : Value} {st : Pst} {rows : List Value} (h : PV w p bv st wv rv ev rows) (hb : ∀ g, g < w.heap.size → foot p wv rv rows g → w'.heap[g]? = w.heap[g]?) : PV w' p bv st wv rv ev rows :=
  ⟨(hb p h.lt (.inl rfl)).trans h.1, h.2.1.keep (fun g hg => hb g (h.2.1.lt g hg).2 (.inr (.inl hg))), ownsRow_keep h.2.2.1 (fun g hg => hb g (h.2.2.1.lt g hg).2 (.inr (.inr (.inl hg)))), h.2.2.2.1.keep (fun v hv g hg => by
    obtain ⟨l, ho⟩ := h.2.2.2.1.row hv
    exact hb g (ho.lt g hg).2 (.inr (.inr (.inr ⟨v, hv, hg⟩)))), h.2.2.2.2⟩
theorem Chg.or {w w' : World} {F F' : Nat → Prop} (h : Chg w F w' F') (v : Value) : Chg w (fun g => F g ∨ v.ownBlock = some g) w' (fun g => F' g ∨ v.ownBlock = some g) :=
  ⟨h.os, h.tape, h.output, h.size, fun g hg hn => h.block g hg (fun hf => hn (.inl hf)), fun g hg => by
    rcases hg with hg | hg
    · rcases h.foot g hg with h | h
      · exact .inl (.inl h)
      · exact .inr h
    · exact .inl (.inr hg)⟩
/-- the stretch lies in the row's block -/
def InB (rv v : Value) : Prop := ∀ a n c g o, rv = .slice a n c → a = some ⟨g, o, none⟩ → 0 < n → v.ownBlock = some g
theorem OwnB.inB {w : World} {b : Nat} {v : Value} {l : List UInt8} (h : OwnB w b v l) : InB v v := by
  intro a n c g o e ha hn
  subst e ha
  rcases h.2 with ⟨e, h0⟩ | ⟨g', cap, cur, e, _⟩
  · injection e with e1 e2
    cases e1
  · injection e with e1 e2
    injection e1 with e1
    injection e1 with e1 e3
    subst e1 e3
    rfl
def sliceN : Value → Nat | .slice _ n _ => n | _ => 0
/-- a parser, whose bytes are held in blocks of its own; G: what it may change -/
def PB (w : World) (p : Nat) (buf : List UInt8) (st : Pst) (G : Nat → Prop) : Prop :=
  ∃ bv F, PQ w p bv st F ∧ OwnB w (p + 1) bv buf ∧ (∀ g, bv.ownBlock = some g → ¬ F g) ∧ ∀ g, G g ↔ F g ∨ bv.ownBlock = some g
end Mm

set_option maxHeartbeats 8000000 in
theorem feed_walk (p : Nat) (v : Value) (b buf : List UInt8) (st : Pl.Pst) (G : Nat → Prop) (W w : World) (hpW : W.heap.size ≤ p) (hR : Mm.RErr W) (hE : Mm.Errs W) (hI : Mm.InlE W) (hW : Below W.heap.size W w) (hl : b.length ≤ 16777216) (hbl : buf.length ≤ 16777216) (hv : Mm.Bs w v b)
    (hp : Mm.PB w p buf st G) (he : st.err = false) (hok : Pl.okP st) (U : Nat) (hb : Pl.bnd st U) (hU : U + buf.length + b.length ≤ 1099511627776) :
    Calls Tryz.prog 24 #[.pointer (some ⟨p, 0, none⟩), v] w fun e w' => e = .returned (.int .i64 0) ∧ ∃ G', Mm.PB w' p (Pl.feedA st buf b).2 (Pl.feedA st buf b).1 G' ∧ Mm.Chg w G w' G' := by
  obtain ⟨bv, F, hq, ho, hd, hG⟩ := hp
  obtain ⟨wv, rv, ev, rows, hpv, hF⟩ := hq
  obtain ⟨a, c, rfl, hc, hn, hbytes⟩ := hv
  have hev : ev = .nilIface := by
    rcases hpv.2.2.2.2.2.2 with ⟨e, _⟩ | ⟨_, e⟩
    · rw [he] at e; cases e
    · exact e
  subst hev
  have HBs : Hid (Mm.Bs w (.slice a b.length c) b) := ⟨a, c, rfl, hc, hn, hbytes⟩
  have c7 := hpv.cell 7 .nilIface rfl
  have c0 := hpv.cell 0 bv rfl
  have HV := Pl.hid hpv
  have HF := Pl.hid hF
  have HO := Pl.hid ho
  have HD := Pl.hid hd
  have HGG := Pl.hid hG
  have HR := Pl.hid hR
  have HE := Pl.hid hE
  have HI := Pl.hid hI
  have HW := Pl.hid hW
  have HPW := Pl.hid hpW
  have hpl := hpv.lt
  have HPL := Pl.hid hpl
  have HB := Pl.hid hb
  have HOK := Pl.hid hok
  have He := Pl.hid he
  have HLEN : Hid (buf.length + b.length ≤ 140737488355328) := by show _ ≤ _; omega
  clear hpv hF ho hd hG hR hE hI hW hpW hbytes hc hn hb hok he
  have hTl : (buf ++ b).length = buf.length + b.length := List.length_append
  obtain ⟨T, hT⟩ : ∃ T, buf ++ b = T := ⟨_, rfl⟩
  rw [hT] at hTl
  have HT := Pl.hid hT
  have HTL := Pl.hid hTl
  clear hT hTl
  go_enter Tryz.func24, Tryz.ntmps24
  go_wp2_with (at_builtin; refine Mm.wp_appW w rfl _ _ (by rfl) (p + 1) bv buf (by rfl) HO.out _ b (by rfl) HBs.out HLEN.out hpl ?_; intro v1 w1 ho1 hg1 hat1; refine Hid.out ?_)
  refine Pl.hid ?_
  rw [HT.out] at ho1
  obtain ⟨a1, c1, rfl, hv1⟩ := ho1.val
  have HF1 : Hid (∀ g, (Value.slice a1 T.length c1).ownBlock = some g → ¬ F g) := fun g hg hf => by
    rcases hat1 with e | e
    · exact HD.out g (by rw [← e]; exact hg) hf
    · rw [e] at hg
      injection hg with hg
      have := (Mm.PQ.lt ⟨wv, rv, _, rows, HV.out, HF.out⟩ g hf).2
      omega
  have HV1 : Hid (Mm.PV w1 p bv st wv rv .nilIface rows) := HV.out.keepF fun g hgl hf => hg1.block g hgl (fun e => HD.out g e.symm (by rw [HF.out]; exact hf))
  have HO1 := Pl.hid ho1
  have HG1 := Pl.hid hg1
  have HAT := Pl.hid hat1
  have hpl1 := HV1.out.lt
  clear ho1 hg1 hat1 hv1 c7 c0
  go_wp2_with (first | (refine Mm.wp_storeF _ rfl 23 _ _ (by rfl) (by kernel_rfl) p 0 64 (Mm.cellsP bv wv rv .nilIface st) _ HV1.out.1 (by rfl) (by rfl) (by simp [Mm.cellsP]) rfl rfl ?_; intro w2 h2 hz2 hg2; refine Hid.out ?_))
  refine Pl.hid ?_
  have HV2 : Hid (Mm.PV w2 p (.slice a1 T.length c1) st wv rv .nilIface rows) := HV1.out.store hg2 h2 rfl rfl HV1.out.2.2.2.2.2.2
  have HO2 : Hid (Mm.OwnB w2 (p + 1) (.slice a1 T.length c1) T) := HO1.out.keep fun g hg => hg2.block g (HO1.out.lt g hg).2 (fun e => by injection e with e; have := (HO1.out.lt g hg).1; omega)
  have HC2 : Hid (Mm.Chg w G w2 (fun g => F g ∨ (Value.slice a1 T.length c1).ownBlock = some g)) := by
    have hz := HG1.out.size
    refine ⟨hg2.os.trans HG1.out.os, hg2.tape.trans HG1.out.tape, hg2.output.trans HG1.out.output, Nat.le_trans hz hg2.size, fun g hgl hng => ?_, fun g hg => ?_⟩
    · rw [hg2.block g (by omega) (fun e => by injection e with e; exact hng ((HGG.out g).2 (.inl (by rw [HF.out]; exact .inl e)))), HG1.out.block g hgl (fun e => hng ((HGG.out g).2 (.inr e.symm)))]
    · rcases hg with hg | hg
      · exact .inl ((HGG.out g).2 (.inl hg))
      · rcases HAT.out with e | e
        · exact .inl ((HGG.out g).2 (.inr (by rw [← e]; exact hg)))
        · rw [e] at hg
          injection hg with hg
          exact .inr (by omega)
  have HW2 : Hid (Below W.heap.size W w2) := HC2.out.under HW.out fun g hg => by
    rcases (HGG.out g).1 hg with hg | hg
    · have := (Mm.PQ.lt ⟨wv, rv, _, rows, HV.out, HF.out⟩ g hg).1
      have := HPW.out
      omega
    · have := (HO.out.lt g hg).1
      have := HPW.out
      omega
  have c0 := HV2.out.cell 0 (.slice a1 T.length c1) rfl
  clear h2 hz2 hg2
  go_wp2_with fail
  clear c0
  go_loopw [5, 6] (fun rv' _ wr => ∃ (rest : List UInt8) (st1 : Pl.Pst) (F1 : Nat → Prop) (f U1 : Nat) (a2 : Option Addr) (c2 : Nat), rv' = .slice a2 rest.length c2 ∧ Hid (Mm.Bs wr (.slice a2 rest.length c2) rest ∧ Mm.InB (.slice a2 rest.length c2) (.slice a1 T.length c1)) ∧ rest.length ≤ T.length ∧
      Hid (Mm.PQ wr p (.slice a1 T.length c1) st1 F1) ∧ Hid (Mm.Chg w2 F wr F1) ∧ Hid (Mm.OwnB wr (p + 1) (.slice a1 T.length c1) T) ∧ Hid (∀ g, (Value.slice a1 T.length c1).ownBlock = some g → ¬ F1 g) ∧
      Hid (Pl.feedM f st1 rest = Pl.feedM (T.length + 1) st T) ∧ Hid (rest.length < f) ∧ Hid (Pl.okP st1) ∧ Hid (Pl.bnd st1 U1) ∧ U1 + rest.length ≤ U + T.length ∧ Hid (rest.length = T.length → rest = T)) (fun rv' _ _ => Mm.sliceN rv')
  case atStart => exact ⟨T, st, F, T.length + 1, U, a1, c1, rfl, ⟨HO2.out.bs, HO2.out.inB⟩, Nat.le_refl _, ⟨wv, rv, .nilIface, rows, HV2.out, HF.out⟩, Mm.Chg.refl _ _, HO2.out, HF1.out, rfl, Nat.lt_succ_self _, HOK.out, HB.out, Nat.le_refl _, fun _ => rfl⟩
  case round =>
    obtain ⟨rest, st1, F1, f, U1, a2, c2, rfl, HBR, hrl, HQ, HCH, HOW, HDJ, HFM, HLF, HOK1, HB1, hU1, HEQ⟩ := hrel
    obtain ⟨f, rfl⟩ : ∃ f', f = f' + 1 := ⟨f - 1, by have := HLF.out; omega⟩
    have HWr : Hid (Below W.heap.size W wr) := HCH.out.under HW2.out fun g hg => by
      have := (Mm.PQ.lt ⟨wv, rv, _, rows, HV2.out, HF.out⟩ g hg).1
      have := HPW.out
      omega
    obtain ⟨wv1, rv1, ev1, rows1, hpv1, hF1⟩ := HQ.out
    cases he1 : st1.err with
    | true =>
      obtain ⟨T3, x3, rfl⟩ : ∃ T x, ev1 = .iface T x := by
        rcases hpv1.2.2.2.2.2.2 with ⟨_, h⟩ | ⟨h, _⟩
        · exact h
        · rw [he1] at h; cases h
      have HERR := Pl.hid he1
      have HFMX : Hid (Pl.feedM (T.length + 1) st T = (st1, rest)) := HFM.out.symm.trans (Pl.feedM_err he1)
      have c7 := hpv1.cell 7 (.iface T3 x3) rfl
      have HVX := Pl.hid hpv1
      have HFX := Pl.hid hF1
      have HCX := HCH
      have HOX := HOW
      have HDX := HDJ
      have HRX : Hid (Mm.Bs wr (.slice a2 rest.length c2) rest) := HBR.out.1
      clear hpv1 hF1 he1
      have c0 := HVX.out.cell 0 (.slice a1 T.length c1) rfl
      have hplX := HVX.out.lt
      have hl47 : ([] : List UInt8).length + rest.length ≤ 140737488355328 := by have := HTL.out; simp; omega
      have HPQX : Hid (Mm.PQ wr p (.slice a1 T.length c1) st1 F1) := ⟨_, _, _, _, HVX.out, HFX.out⟩
      have HGX : Hid (Mm.Chg w G wr (fun g => F1 g ∨ (Value.slice a1 T.length c1).ownBlock = some g)) := HC2.out.trans (HCX.out.or _)
      rcases Nat.lt_or_ge rest.length T.length with hlt | hge
      · go_wp2_with (first
          | (at_builtin; refine Mm.wp_appW wr rfl _ _ (by rfl) (p + 1) (.slice none 0 0) [] (by rfl) (Mm.ownB_nil _ _) _ rest (by rfl) HRX.out hl47 hplX ?_; intro v5 w5 ho5 hg5 hat5; obtain ⟨a5, k5, rfl, _⟩ := ho5.val; have HO5 := Pl.hid ho5; have HG5 := Pl.hid hg5; have HAT5 := Pl.hid hat5; have HV5 := Pl.hid (HVX.out.below ((Below.refl _ _).grown HG5.out (Nat.le_refl _) (fun k hk => by cases hk))); clear ho5 hg5 hat5)
          | (refine Mm.wp_storeF _ rfl 23 _ _ (by rfl) (by kernel_rfl) p 0 64 _ _ H6.out (by rfl) (by rfl) (by simp [Mm.cellsP]) rfl rfl ?_; intro w7 h7 hz7 hg7; have H7 := Pl.hid h7; have HG7 := Pl.hid hg7; clear h7 hz7 hg7; clear c7)
          | (refine Mm.wp_storeF _ rfl 23 _ _ (by rfl) (by kernel_rfl) p 0 64 (Mm.cellsP (.slice a1 T.length c1) wv1 rv1 (Value.iface T3 x3) st1) _ HV5.out.1 (by rfl) (by rfl) (by simp [Mm.cellsP]) rfl rfl ?_; intro w6 h6 hz6 hg6; have H6 := Pl.hid h6; have HG6 := Pl.hid hg6; clear h6 hz6 hg6; have c7 := Mm.cellOf (i := 7) (v := (Value.iface T3 x3)) H6.out rfl)
          | (refine Mm.wp_storeF _ rfl 3 _ _ (by rfl) (by kernel_rfl) p 1 64 _ _ H7.out (by rfl) (by rfl) (by simp [Mm.cellsP]) rfl rfl ?_; intro w8 h8 hz8 hg8; have H8 := Pl.hid h8; have HG8 := Pl.hid hg8; clear h8 hz8 hg8)
          | (refine Mm.wp_storeF _ rfl 39 _ _ (by rfl) (by kernel_rfl) p 2 64 _ _ H8.out (by rfl) (by rfl) (by simp [Mm.cellsP]) rfl rfl ?_; intro w9 h9 hz9 hg9; have H9 := Pl.hid h9; have HG9 := Pl.hid hg9; clear h9 hz9 hg9))
        go_ret
        rw [Pl.feedA_err HT.out HFMX.out HERR.out]
        have hgz := Mm.gTrans HG6.out (Mm.gTrans HG7.out (Mm.gTrans HG8.out HG9.out))
        have hvz := HV5.out
        have hbz : Below wr.heap.size wr w5 := (Below.refl _ _).grown HG5.out (Nat.le_refl _) (fun k hk => by cases hk)
        refine ⟨rfl, _, ⟨.slice none 0 0, Mm.foot p (.slice none 0 0) rv1 rows1, ⟨_, _, _, _, hvz.clear hgz H9.out rfl rfl ?_, rfl⟩, Mm.ownB_nil _ _, fun g hg => (by cases hg), fun g => Iff.rfl⟩, ?_⟩
        · first | exact HVX.out.2.2.2.2.2.2 | exact .inl ⟨rfl, _, _, rfl⟩ | exact .inl ⟨HERR.out, _, _, rfl⟩
        · refine HGX.out.trans ((Mm.Chg.below hbz).trans (Mm.Chg.grown hgz (fun g e => by injection e with e; exact .inl (by rw [HFX.out]; exact .inl e.symm)) (fun g hg => ?_)))
          rcases hg with (h | h | h) | h
          · exact .inl (.inl (by rw [HFX.out]; exact .inl h))
          · cases h
          · exact .inl (.inl (by rw [HFX.out]; exact .inr (.inr h)))
          · cases h
      · obtain rfl : rest = T := HEQ.out (by omega)
        go_wp2_with (first
          | (refine Mm.wp_storeF _ rfl 23 _ _ (by rfl) (by kernel_rfl) p 0 64 (Mm.cellsP (.slice a1 rest.length c1) wv1 rv1 (Value.iface T3 x3) st1) _ HVX.out.1 (by rfl) (by rfl) (by simp [Mm.cellsP]) rfl rfl ?_; intro w7 h7 hz7 hg7; have H7 := Pl.hid h7; have HG7 := Pl.hid hg7; clear h7 hz7 hg7; clear c7)
          | (refine Mm.wp_storeF _ rfl 3 _ _ (by rfl) (by kernel_rfl) p 1 64 _ _ H7.out (by rfl) (by rfl) (by simp [Mm.cellsP]) rfl rfl ?_; intro w8 h8 hz8 hg8; have H8 := Pl.hid h8; have HG8 := Pl.hid hg8; clear h8 hz8 hg8)
          | (refine Mm.wp_storeF _ rfl 39 _ _ (by rfl) (by kernel_rfl) p 2 64 _ _ H8.out (by rfl) (by rfl) (by simp [Mm.cellsP]) rfl rfl ?_; intro w9 h9 hz9 hg9; have H9 := Pl.hid h9; have HG9 := Pl.hid hg9; clear h9 hz9 hg9))
        go_ret
        rw [Pl.feedA_err HT.out HFMX.out HERR.out]
        have hgz := Mm.gTrans HG7.out (Mm.gTrans HG8.out HG9.out)
        refine ⟨rfl, _, ⟨.slice none 0 0, Mm.foot p (.slice none 0 0) rv1 rows1, ⟨_, _, _, _, HVX.out.clear hgz H9.out rfl rfl ?_, rfl⟩, Mm.ownB_nil _ _, fun g hg => (by cases hg), fun g => Iff.rfl⟩, ?_⟩
        · first | exact HVX.out.2.2.2.2.2.2 | exact .inl ⟨rfl, _, _, rfl⟩ | exact .inl ⟨HERR.out, _, _, rfl⟩
        · refine HGX.out.trans (Mm.Chg.grown hgz (fun g e => by injection e with e; exact .inl (by rw [HFX.out]; exact .inl e.symm)) (fun g hg => ?_))
          rcases hg with (h | h | h) | h
          · exact .inl (.inl (by rw [HFX.out]; exact .inl h))
          · cases h
          · exact .inl (.inl (by rw [HFX.out]; exact .inr (.inr h)))
          · cases h
    | false =>
      obtain rfl : ev1 = .nilIface := by
        rcases hpv1.2.2.2.2.2.2 with ⟨h, _⟩ | ⟨_, h⟩
        · rw [he1] at h; cases h
        · exact h
      have c7 := hpv1.cell 7 .nilIface rfl
      have hpo := Pl.part_ok (l := rest) HOK1.out he1
      have HPC := Pl.hid (part_walk p (.slice a2 rest.length c2) rest (.slice a1 T.length c1) st1 F1 W wr HPW.out HR.out HE.out HI.out HWr.out (by have := HTL.out; omega) HBR.out.1.rest HQ.out he1 HOK1.out U1 HB1.out (by have := HTL.out; omega))
      have HSTOP := Pl.hid (fun h => Pl.feedM_stop (f := f) (l := rest) he1 h)
      have HGO := Pl.hid (fun h => Pl.feedM_go (f := f) (l := rest) he1 h)
      obtain ⟨k, hk⟩ : ∃ k, (Pl.partM st1 rest).1 = k := ⟨_, rfl⟩
      obtain ⟨st2, hst2⟩ : ∃ st2, (Pl.partM st1 rest).2 = st2 := ⟨_, rfl⟩
      rw [hk, hst2] at HPC hpo HSTOP HGO
      have HOK2 := Pl.hid hpo.1
      have HB2 := Pl.hid (hpo.2.2 U1 HB1.out)
      have hkl := hpo.2.1
      clear hk hst2 hpo hpv1 hF1 he1
      go_wp2_with fail
      refine HPC.out.mono ?_
      rintro e w3 ⟨rfl, F2, hq2, hch2⟩
      have hc3 := HCH.out.trans hch2
      have HCX := Pl.hid hc3
      have HBR3 : Hid (Mm.Bs w3 (.slice a2 rest.length c2) rest) := HBR.out.1.keep fun a n c g o e1 e2 e3 e4 => hch2.block g e4 (HDJ.out g (HBR.out.2 a n c g o e1 e2 e3))
      have HOX : Hid (Mm.OwnB w3 (p + 1) (.slice a1 T.length c1) T) := HOW.out.keep fun g hg => hch2.block g (HOW.out.lt g hg).2 (HDJ.out g hg)
      have HDX : Hid (∀ g, (Value.slice a1 T.length c1).ownBlock = some g → ¬ F2 g) := fun g hg hf => by
        rcases hch2.foot g hf with h | h
        · exact HDJ.out g hg h
        · have := (HOW.out.lt g hg).2
          omega
      have HQ2 := Pl.hid hq2
      clear c7 hch2 hc3 hq2
      rcases Nat.eq_zero_or_pos k with hk0 | hk0
      · subst hk0
        have HFMX : Hid (Pl.feedM (T.length + 1) st T = (st2, rest)) := HFM.out.symm.trans (HSTOP.out rfl)
        have HRX := HBR3
        obtain ⟨wvX, rvX, evX, rowsX, hpvX, hFX⟩ := HQ2.out
        have HVX := Pl.hid hpvX
        have HFX := Pl.hid hFX
        clear hpvX hFX
        have c7 := HVX.out.cell 7 evX rfl
        cases he2 : st2.err with
        | true =>
          have HERR := Pl.hid he2
          obtain ⟨T3, x3, rfl⟩ : ∃ T x, evX = .iface T x := by
            rcases HVX.out.2.2.2.2.2.2 with ⟨_, h⟩ | ⟨h, _⟩
            · exact h
            · rw [he2] at h; cases h
          clear he2
          have c0 := HVX.out.cell 0 (.slice a1 T.length c1) rfl
          have hplX := HVX.out.lt
          have hl47 : ([] : List UInt8).length + rest.length ≤ 140737488355328 := by have := HTL.out; simp; omega
          have HPQX : Hid (Mm.PQ w3 p (.slice a1 T.length c1) st2 F2) := ⟨_, _, _, _, HVX.out, HFX.out⟩
          have HGX : Hid (Mm.Chg w G w3 (fun g => F2 g ∨ (Value.slice a1 T.length c1).ownBlock = some g)) := HC2.out.trans (HCX.out.or _)
          rcases Nat.lt_or_ge rest.length T.length with hlt | hge
          · go_wp2_with (first
              | (at_builtin; refine Mm.wp_appW w3 rfl _ _ (by rfl) (p + 1) (.slice none 0 0) [] (by rfl) (Mm.ownB_nil _ _) _ rest (by rfl) HRX.out hl47 hplX ?_; intro v5 w5 ho5 hg5 hat5; obtain ⟨a5, k5, rfl, _⟩ := ho5.val; have HO5 := Pl.hid ho5; have HG5 := Pl.hid hg5; have HAT5 := Pl.hid hat5; have HV5 := Pl.hid (HVX.out.below ((Below.refl _ _).grown HG5.out (Nat.le_refl _) (fun k hk => by cases hk))); clear ho5 hg5 hat5)
              | (refine Mm.wp_storeF _ rfl 23 _ _ (by rfl) (by kernel_rfl) p 0 64 _ _ H6.out (by rfl) (by rfl) (by simp [Mm.cellsP]) rfl rfl ?_; intro w7 h7 hz7 hg7; have H7 := Pl.hid h7; have HG7 := Pl.hid hg7; clear h7 hz7 hg7; clear c7)
              | (refine Mm.wp_storeF _ rfl 23 _ _ (by rfl) (by kernel_rfl) p 0 64 (Mm.cellsP (.slice a1 T.length c1) wvX rvX (Value.iface T3 x3) st2) _ HV5.out.1 (by rfl) (by rfl) (by simp [Mm.cellsP]) rfl rfl ?_; intro w6 h6 hz6 hg6; have H6 := Pl.hid h6; have HG6 := Pl.hid hg6; clear h6 hz6 hg6; have c7 := Mm.cellOf (i := 7) (v := (Value.iface T3 x3)) H6.out rfl)
              | (refine Mm.wp_storeF _ rfl 3 _ _ (by rfl) (by kernel_rfl) p 1 64 _ _ H7.out (by rfl) (by rfl) (by simp [Mm.cellsP]) rfl rfl ?_; intro w8 h8 hz8 hg8; have H8 := Pl.hid h8; have HG8 := Pl.hid hg8; clear h8 hz8 hg8)
              | (refine Mm.wp_storeF _ rfl 39 _ _ (by rfl) (by kernel_rfl) p 2 64 _ _ H8.out (by rfl) (by rfl) (by simp [Mm.cellsP]) rfl rfl ?_; intro w9 h9 hz9 hg9; have H9 := Pl.hid h9; have HG9 := Pl.hid hg9; clear h9 hz9 hg9))
            go_ret
            rw [Pl.feedA_err HT.out HFMX.out HERR.out]
            have hgz := Mm.gTrans HG6.out (Mm.gTrans HG7.out (Mm.gTrans HG8.out HG9.out))
            have hvz := HV5.out
            have hbz : Below w3.heap.size w3 w5 := (Below.refl _ _).grown HG5.out (Nat.le_refl _) (fun k hk => by cases hk)
            refine ⟨rfl, _, ⟨.slice none 0 0, Mm.foot p (.slice none 0 0) rvX rowsX, ⟨_, _, _, _, hvz.clear hgz H9.out rfl rfl ?_, rfl⟩, Mm.ownB_nil _ _, fun g hg => (by cases hg), fun g => Iff.rfl⟩, ?_⟩
            · first | exact HVX.out.2.2.2.2.2.2 | exact .inl ⟨rfl, _, _, rfl⟩ | exact .inl ⟨HERR.out, _, _, rfl⟩
            · refine HGX.out.trans ((Mm.Chg.below hbz).trans (Mm.Chg.grown hgz (fun g e => by injection e with e; exact .inl (by rw [HFX.out]; exact .inl e.symm)) (fun g hg => ?_)))
              rcases hg with (h | h | h) | h
              · exact .inl (.inl (by rw [HFX.out]; exact .inl h))
              · cases h
              · exact .inl (.inl (by rw [HFX.out]; exact .inr (.inr h)))
              · cases h
          · obtain rfl : rest = T := HEQ.out (by omega)
            go_wp2_with (first
              | (refine Mm.wp_storeF _ rfl 23 _ _ (by rfl) (by kernel_rfl) p 0 64 (Mm.cellsP (.slice a1 rest.length c1) wvX rvX (Value.iface T3 x3) st2) _ HVX.out.1 (by rfl) (by rfl) (by simp [Mm.cellsP]) rfl rfl ?_; intro w7 h7 hz7 hg7; have H7 := Pl.hid h7; have HG7 := Pl.hid hg7; clear h7 hz7 hg7; clear c7)
              | (refine Mm.wp_storeF _ rfl 3 _ _ (by rfl) (by kernel_rfl) p 1 64 _ _ H7.out (by rfl) (by rfl) (by simp [Mm.cellsP]) rfl rfl ?_; intro w8 h8 hz8 hg8; have H8 := Pl.hid h8; have HG8 := Pl.hid hg8; clear h8 hz8 hg8)
              | (refine Mm.wp_storeF _ rfl 39 _ _ (by rfl) (by kernel_rfl) p 2 64 _ _ H8.out (by rfl) (by rfl) (by simp [Mm.cellsP]) rfl rfl ?_; intro w9 h9 hz9 hg9; have H9 := Pl.hid h9; have HG9 := Pl.hid hg9; clear h9 hz9 hg9))
            go_ret
            rw [Pl.feedA_err HT.out HFMX.out HERR.out]
            have hgz := Mm.gTrans HG7.out (Mm.gTrans HG8.out HG9.out)
            refine ⟨rfl, _, ⟨.slice none 0 0, Mm.foot p (.slice none 0 0) rvX rowsX, ⟨_, _, _, _, HVX.out.clear hgz H9.out rfl rfl ?_, rfl⟩, Mm.ownB_nil _ _, fun g hg => (by cases hg), fun g => Iff.rfl⟩, ?_⟩
            · first | exact HVX.out.2.2.2.2.2.2 | exact .inl ⟨rfl, _, _, rfl⟩ | exact .inl ⟨HERR.out, _, _, rfl⟩
            · refine HGX.out.trans (Mm.Chg.grown hgz (fun g e => by injection e with e; exact .inl (by rw [HFX.out]; exact .inl e.symm)) (fun g hg => ?_))
              rcases hg with (h | h | h) | h
              · exact .inl (.inl (by rw [HFX.out]; exact .inl h))
              · cases h
              · exact .inl (.inl (by rw [HFX.out]; exact .inr (.inr h)))
              · cases h
        | false =>
          have HERR := Pl.hid he2
          obtain rfl : evX = .nilIface := by
            rcases HVX.out.2.2.2.2.2.2 with ⟨h, _⟩ | ⟨_, h⟩
            · rw [he2] at h; cases h
            · exact h
          clear he2
          have c0 := HVX.out.cell 0 (.slice a1 T.length c1) rfl
          have hplX := HVX.out.lt
          have hl47 : ([] : List UInt8).length + rest.length ≤ 140737488355328 := by have := HTL.out; simp; omega
          have HPQX : Hid (Mm.PQ w3 p (.slice a1 T.length c1) st2 F2) := ⟨_, _, _, _, HVX.out, HFX.out⟩
          have HGX : Hid (Mm.Chg w G w3 (fun g => F2 g ∨ (Value.slice a1 T.length c1).ownBlock = some g)) := HC2.out.trans (HCX.out.or _)
          rcases Nat.lt_or_ge rest.length T.length with hlt | hge
          · go_wp2_with (first
              | (at_builtin; refine Mm.wp_appW w3 rfl _ _ (by rfl) (p + 1) (.slice none 0 0) [] (by rfl) (Mm.ownB_nil _ _) _ rest (by rfl) HRX.out hl47 hplX ?_; intro v5 w5 ho5 hg5 hat5; obtain ⟨a5, k5, rfl, _⟩ := ho5.val; have HO5 := Pl.hid ho5; have HG5 := Pl.hid hg5; have HAT5 := Pl.hid hat5; have HV5 := Pl.hid (HVX.out.below ((Below.refl _ _).grown HG5.out (Nat.le_refl _) (fun k hk => by cases hk))); clear ho5 hg5 hat5)
              | (refine Mm.wp_storeF _ rfl 23 _ _ (by rfl) (by kernel_rfl) p 0 64 (Mm.cellsP (.slice a1 T.length c1) wvX rvX Value.nilIface st2) _ HV5.out.1 (by rfl) (by rfl) (by simp [Mm.cellsP]) rfl rfl ?_; intro w6 h6 hz6 hg6; have H6 := Pl.hid h6; have HG6 := Pl.hid hg6; clear h6 hz6 hg6; have c7 := Mm.cellOf (i := 7) (v := Value.nilIface) H6.out rfl))
            go_ret
            rw [Pl.feedA_ok HT.out HFMX.out HERR.out]
            have hbz : Below w3.heap.size w3 w5 := (Below.refl _ _).grown HG5.out (Nat.le_refl _) (fun k hk => by cases hk)
            have hnew : ∀ g, (Value.slice a5 ([] ++ rest).length k5).ownBlock = some g → w3.heap.size ≤ g := fun g hg => by
              rcases HAT5.out with e | e
              · rw [e] at hg; cases hg
              · rw [e] at hg; injection hg with hg; omega
            refine ⟨rfl, _, ⟨_, F2, ⟨wvX, rvX, Value.nilIface, rowsX, HV5.out.store HG6.out H6.out rfl rfl HVX.out.2.2.2.2.2.2, HFX.out⟩, HO5.out.keep (fun g hg => HG6.out.block g (HO5.out.lt g hg).2 (fun e => by injection e with e; have := (HO5.out.lt g hg).1; omega)), fun g hg hf => ?_, fun g => Iff.rfl⟩, ?_⟩
            · have := hnew g hg
              have := (HPQX.out.lt g hf).2
              omega
            · refine HGX.out.trans (Mm.Chg.grown (Mm.gTrans (Mm.gBelow hbz) HG6.out) (fun g e => by injection e with e; exact .inl (by rw [HFX.out]; exact .inl e.symm)) (fun g hg => ?_))
              rcases hg with h | h
              · exact .inl (.inl h)
              · exact .inr (hnew g h)
          · obtain rfl : rest = T := HEQ.out (by omega)
            go_wp2_with fail
            go_ret
            rw [Pl.feedA_ok HT.out HFMX.out HERR.out]
            exact ⟨rfl, _, ⟨_, F2, HPQX.out, HOX.out, HDX.out, fun g => Iff.rfl⟩, HGX.out⟩
      · have hr0 : 0 < rest.length := by omega
        obtain ⟨a', c', e', hc', _, hby⟩ := HBR3.out
        injection e' with e1 e2 e3
        subst e1 e3
        obtain ⟨g0, o0, rfl, hm0⟩ := hby hr0
        have hkz : ((k : Int) == 0) = false := beq_eq_false_iff_ne.2 (by omega)
        have HM0 := Pl.hid hm0
        have HFM2 : Hid (Pl.feedM f st2 (rest.drop k) = Pl.feedM (T.length + 1) st T) := (HGO.out (by omega)).symm.trans HFM.out
        have hdl : (rest.drop k).length = rest.length - k := List.length_drop
        have HDL := Pl.hid hdl
        have HIB := Pl.hid (HBR.out.2 _ _ _ g0 o0 rfl rfl hr0)
        have HDR : Hid (∀ aa cc, rest.length - k ≤ cc → (rest.length - k = 0 ∨ aa = some ⟨g0, o0 + k, none⟩) → (aa = none → cc = 0) → Mm.Bs w3 (.slice aa (rest.drop k).length cc) (rest.drop k) ∧ Mm.InB (.slice aa (rest.drop k).length cc) (.slice a1 T.length c1)) := fun aa cc h1 h2 h3 => by
          refine ⟨⟨aa, cc, rfl, by rw [HDL.out]; exact h1, h3, fun hp => ?_⟩, fun a n c g o e1 e2 e3 => ?_⟩
          · rcases h2 with h2 | h2
            · rw [HDL.out] at hp; omega
            · exact ⟨g0, o0 + k, h2, HM0.out.drop k⟩
          · injection e1 with e1 e4 e5
            rcases h2 with h2 | h2
            · rw [HDL.out] at e4; omega
            · rw [← e1, h2] at e2
              injection e2 with e2
              injection e2 with e2
              subst e2
              exact HIB.out
        have hlf := HLF.out
        have REL : Hid (∀ aa cc, rest.length - k ≤ cc → (rest.length - k = 0 ∨ aa = some ⟨g0, o0 + k, none⟩) → (aa = none → cc = 0) → ∃ (rest' : List UInt8) (st1 : Pl.Pst) (F1 : Nat → Prop) (f U1 : Nat) (a2 : Option Addr) (c2 : Nat), Value.slice aa (rest.length - k) cc = .slice a2 rest'.length c2 ∧ Hid (Mm.Bs w3 (.slice a2 rest'.length c2) rest' ∧ Mm.InB (.slice a2 rest'.length c2) (.slice a1 T.length c1)) ∧ rest'.length ≤ T.length ∧
            Hid (Mm.PQ w3 p (.slice a1 T.length c1) st1 F1) ∧ Hid (Mm.Chg w2 F w3 F1) ∧ Hid (Mm.OwnB w3 (p + 1) (.slice a1 T.length c1) T) ∧ Hid (∀ g, (Value.slice a1 T.length c1).ownBlock = some g → ¬ F1 g) ∧
            Hid (Pl.feedM f st1 rest' = Pl.feedM (T.length + 1) st T) ∧ Hid (rest'.length < f) ∧ Hid (Pl.okP st1) ∧ Hid (Pl.bnd st1 U1) ∧ U1 + rest'.length ≤ U + T.length ∧ Hid (rest'.length = T.length → rest' = T)) := fun aa cc h1 h2 h3 =>
          ⟨rest.drop k, st2, F2, f, U1 + k, aa, cc, by rw [HDL.out], HDR.out aa cc h1 h2 h3, by rw [HDL.out]; omega, HQ2.out, HCX.out, HOX.out, HDX.out, HFM2.out, (by show _ < _; rw [HDL.out]; have := HLF.out; omega), HOK2.out, HB2.out, by rw [HDL.out]; omega, fun e => by rw [HDL.out] at e; omega⟩
        clear hdl hlf hby hm0 HDR
        rcases Decidable.em (c2 = k) with hck | hck
        · subst hck
          have hrk : rest.length = c2 := by omega
          go_wp2_with fail
          go_roundw
          case rel =>
            have hrel := REL.out (some ⟨g0, o0, none⟩) 0 (by omega) (.inl (by omega)) (fun e => rfl)
            rwa [show rest.length - c2 = 0 by omega] at hrel
          case measure => simp only [Mm.sliceN]; omega
        · go_wp2_with fail
          go_roundw
          case rel => exact REL.out _ _ (by omega) (.inr rfl) (fun e => by cases e)
          case measure => simp only [Mm.sliceN]; omega
end Go.Proofs.YtgpbgldnaongnaaGreatDoor

namespace Go.Proofs.YtgpbgldnaongnaaGreatDoor
open Go.RowKit
set_option maxRecDepth 20000

namespace Mm
open Pl
/-- a row of texts that may be read -/
def RowT (w : World) (v : Value) (l : List (List UInt8)) : Prop := ∃ a c, v = .slice a l.length c ∧ l.length ≤ c ∧ (0 < l.length → ∃ g o, a = some ⟨g, o, none⟩ ∧ ∀ i s, l[i]? = some s → w.cell? ⟨g, o + i, none⟩ = some (.string (B s)))
theorem OwnS.rowT {w : World} {b : Nat} {v : Value} {l : List (List UInt8)} (h : OwnS w b v l) : RowT w v l := by
  obtain ⟨a, c, rfl, h0 | ⟨g, rfl, _, hg, hle⟩⟩ := h.val
  · exact ⟨_, _, rfl, by omega, fun h => by omega⟩
  · refine ⟨_, _, rfl, hle, fun _ => ⟨g, 0, rfl, fun i s hs => ?_⟩⟩
    have := h.cells (g := g) rfl i (.string (B s)) (by simp [strsV, hs])
    have e : (⟨g, 0, none⟩ : Addr).add i = ⟨g, i, none⟩ := by unfold Addr.add; split <;> simp_all
    rw [e] at this
    rw [Nat.zero_add]
    exact this
theorem RowT.below {w w' : World} {v : Value} {l : List (List UInt8)} (h : RowT w v l) (hb : Below w.heap.size w w') : RowT w' v l := by
  obtain ⟨a, c, h1, h2, h3⟩ := h
  refine ⟨a, c, h1, h2, fun hp => ?_⟩
  obtain ⟨g, o, e, hc⟩ := h3 hp
  exact ⟨g, o, e, fun i s hs => (hb.cell (p := ⟨g, o + i, none⟩) (World.block_lt_of_cell? _ _ (hc i s hs))).trans (hc i s hs)⟩
/-- a parser that is only asked: what is ready and was not told yet, and how many bytes are held -/
def PN (w : World) (p : Nat) (rest : List (List (List UInt8))) (st : Pst) (nb : Nat) : Prop :=
  ∃ wv ev ba bc a c, w.heap[p]? = some (.cells (cellsP (.slice ba nb bc) wv (.slice a rest.length c) ev st) 64 (0, 0)) ∧ rest.length ≤ c ∧ ErrV st.err ev ∧
    (0 < rest.length → ∃ g o, a = some ⟨g, o, none⟩ ∧ g ≠ p ∧ ∀ i l, rest[i]? = some l → ∃ v, w.cell? ⟨g, o + i, none⟩ = some v ∧ OwnS w (p + 1) v l)
theorem PB.asked {w : World} {p : Nat} {buf : List UInt8} {st : Pst} {G : Nat → Prop} (h : PB w p buf st G) : PN w p st.ready st buf.length := by
  obtain ⟨bv, F, ⟨wv, rv, ev, rows, hv, _⟩, ho, _, _⟩ := h
  obtain ⟨ba, bc, rfl, _⟩ := ho.val
  have hlen := hv.2.2.2.1.1
  rcases hv.2.2.1.2 with ⟨e, h0⟩ | ⟨g, cap, cur, e, hg, hh, hle, _⟩
  · have hz : st.ready.length = 0 := by omega
    refine ⟨wv, ev, ba, bc, none, 0, ?_, by omega, hv.2.2.2.2.2.2, fun h => by omega⟩
    rw [hz, ← e]
    exact hv.1
  · refine ⟨wv, ev, ba, bc, some ⟨g, 0, none⟩, cap, ?_, by omega, hv.2.2.2.2.2.2, fun hp => ⟨g, 0, rfl, by omega, fun i l hl => ?_⟩⟩
    · rw [← hlen, ← e]
      exact hv.1
    · obtain ⟨v, e1, e2⟩ := hv.2.2.2.1.2 i l hl
      refine ⟨v, ?_, e2⟩
      have := hv.2.2.1.cells (g := g) (by rw [e]; rfl) i v e1
      have e : (⟨g, 0, none⟩ : Addr).add i = ⟨g, i, none⟩ := by unfold Addr.add; split <;> simp_all
      rw [e] at this
      rw [Nat.zero_add]
      exact this
theorem PN.below {w w' : World} {p : Nat} {rest : List (List (List UInt8))} {st : Pst} {nb : Nat} (h : PN w p rest st nb) (hb : Below w.heap.size w w') : PN w' p rest st nb := by
  obtain ⟨wv, ev, ba, bc, a, c, h1, h2, h3, h4⟩ := h
  refine ⟨wv, ev, ba, bc, a, c, (hb.block p (Array.getElem?_eq_some_iff.1 h1).1).trans h1, h2, h3, fun hp => ?_⟩
  obtain ⟨g, o, e, hne, hc⟩ := h4 hp
  refine ⟨g, o, e, hne, fun i l hl => ?_⟩
  obtain ⟨v, e1, e2⟩ := hc i l hl
  exact ⟨v, (hb.cell (p := ⟨g, o + i, none⟩) (World.block_lt_of_cell? _ _ e1)).trans e1, e2.below hb⟩
end Mm

theorem pnew_walk (w : World) : Calls Tryz.prog 18 #[] w fun e w' => e = .returned (.pointer (some ⟨w.heap.size, 0, none⟩)) ∧ Mm.PB w' w.heap.size [] Pl.fresh (fun g => g = w.heap.size) ∧ w'.heap.size = w.heap.size + 1 ∧ Below w.heap.size w w' := by
  go_enter Tryz.func18, Tryz.ntmps18
  go_wp2_with fail
  go_ret
  refine ⟨rfl, ⟨.slice none 0 0, Mm.foot w.heap.size (.slice none 0 0) (.slice none 0 0) [], ⟨_, _, .nilIface, [], ⟨heap_alloc_new w _, Mm.ownS_nil _ _, World.ownsRow_nil _ _ _ _, ⟨rfl, fun i l h => by simp [Pl.fresh] at h⟩, fun g h => (by cases h), fun v h => (by cases h), .inr ⟨rfl, rfl⟩⟩, rfl⟩, Mm.ownB_nil _ _, fun g h => (by cases h), fun g => ?_⟩, by simp, (Below.refl _ _).alloc (Nat.le_refl _) _⟩
  constructor
  · intro e
    exact .inl (.inl e)
  · rintro ((e | e | e | ⟨v, hv, _⟩) | e)
    · exact e
    · cases e
    · cases e
    · cases hv
    · cases e

set_option maxHeartbeats 4000000 in
theorem pnext_none (p : Nat) (st : Pl.Pst) (nb : Nat) (w : World) (h : Mm.PN w p [] st nb) :
    Calls Tryz.prog 25 #[.pointer (some ⟨p, 0, none⟩)] w fun e w' => e = .returned (.tuple #[.slice none 0 0, .bool false]) ∧ w = w' := by
  obtain ⟨wv, ev, ba, bc, a, c, h1, h2, h3, h4⟩ := h
  have c6 := Mm.cellOf (i := 6) (v := .slice a 0 c) h1 rfl
  clear h1 h2 h3 h4
  go_enter Tryz.func25, Tryz.ntmps25
  go_wp2_with fail
  go_ret2
  exact ⟨rfl, rfl⟩

set_option maxHeartbeats 4000000 in
theorem pnext_some (p : Nat) (x : List (List UInt8)) (rest : List (List (List UInt8))) (st : Pl.Pst) (nb : Nat) (w : World) (h : Mm.PN w p (x :: rest) st nb) :
    Calls Tryz.prog 25 #[.pointer (some ⟨p, 0, none⟩)] w fun e w' => (∃ v, e = .returned (.tuple #[v, .bool true]) ∧ Mm.OwnS w' (p + 1) v x) ∧ Mm.PN w' p rest st nb ∧ w.grownBy w' (some p) := by
  obtain ⟨wv, ev, ba, bc, a, c, h1, h2, h3, h4⟩ := h
  obtain ⟨g, o, rfl, hne, hc⟩ := h4 (by simp)
  obtain ⟨v, e0, ho⟩ := hc 0 x rfl
  rw [Nat.add_zero] at e0
  obtain ⟨va, vc, rfl, _⟩ := ho.val
  have hl : (x :: rest).length = rest.length + 1 := rfl
  rw [hl] at h1 h2
  have c6 := Mm.cellOf (i := 6) (v := .slice (some ⟨g, o, none⟩) (rest.length + 1) c) h1 rfl
  have H1 := Pl.hid h1
  have HO := Pl.hid ho
  have HC := Pl.hid hc
  have H3 := Pl.hid h3
  have HNE := Pl.hid hne
  have hpl : p < w.heap.size := (Array.getElem?_eq_some_iff.1 h1).1
  have HPL := Pl.hid hpl
  have hcz : ¬ c = 0 := by omega
  clear h1 h3 h4 hc hl ho hne
  generalize hn : rest.length = n at c6 h2 H1
  have HN := Pl.hid hn
  clear hn
  have HFIN : Hid (∀ w6 a' c', w.grownBy w6 (some p) → w6.heap[p]? = some (.cells (Mm.cellsP (.slice ba nb bc) wv (.slice a' n c') ev st) 64 (0, 0)) → n ≤ c' → (0 < n → a' = some ⟨g, o + 1, none⟩) → Mm.PN w6 p rest st nb ∧ Mm.OwnS w6 (p + 1) (.slice va x.length vc) x) := fun w6 a' c' hg hh hnc ha => by
    have keep : ∀ v l, Mm.OwnS w (p + 1) v l → Mm.OwnS w6 (p + 1) v l := fun v l ho => ho.keep fun g0 hg0 => hg.block g0 (ho.lt g0 hg0).2 (fun e => by injection e with e; have := (ho.lt g0 hg0).1; omega)
    refine ⟨⟨wv, ev, ba, bc, a', c', by rw [HN.out]; exact hh, by rw [HN.out]; exact hnc, H3.out, fun hp => ⟨g, o + 1, ha (by rw [← HN.out]; exact hp), HNE.out, fun i l hl => ?_⟩⟩, keep _ _ HO.out⟩
    obtain ⟨v, e1, e2⟩ := HC.out (i + 1) l (by simpa using hl)
    refine ⟨v, ?_, keep _ _ e2⟩
    rw [show o + 1 + i = o + (i + 1) by omega]
    exact hg.cell e1 (fun e => by injection e with e; exact HNE.out e)
  go_enter Tryz.func25, Tryz.ntmps25
  rcases Decidable.em (c = 1) with hc1 | hc1
  · subst hc1
    obtain rfl : n = 0 := by omega
    go_wp2_with (first | (refine Mm.wp_storeF _ rfl 62 _ _ (by rfl) (by kernel_rfl) p 6 64 _ _ H1.out (by rfl) (by rfl) (by simp [Mm.cellsP]) rfl rfl ?_; intro w6 h6 hz6 hg6; have H6 := Pl.hid h6; have HG6 := Pl.hid hg6; clear h6 hz6 hg6 c6 e0))
    go_ret2
    obtain ⟨k1, k2⟩ := HFIN.out w6 _ _ HG6.out H6.out (Nat.zero_le _) (fun h => by omega)
    exact ⟨⟨_, rfl, k2⟩, k1, HG6.out⟩
  · go_wp2_with (first | (refine Mm.wp_storeF _ rfl 62 _ _ (by rfl) (by kernel_rfl) p 6 64 _ _ H1.out (by rfl) (by rfl) (by simp [Mm.cellsP]) rfl rfl ?_; intro w6 h6 hz6 hg6; have H6 := Pl.hid h6; have HG6 := Pl.hid hg6; clear h6 hz6 hg6 c6 e0))
    go_ret2
    obtain ⟨k1, k2⟩ := HFIN.out w6 _ _ HG6.out H6.out (by omega) (fun _ => rfl)
    exact ⟨⟨_, rfl, k2⟩, k1, HG6.out⟩

theorem perr_walk (p : Nat) (rest : List (List (List UInt8))) (st : Pl.Pst) (nb : Nat) (w : World) (h : Mm.PN w p rest st nb) :
    Calls Tryz.prog 27 #[.pointer (some ⟨p, 0, none⟩)] w fun e w' => (∃ ev, e = .returned ev ∧ Mm.ErrV st.err ev) ∧ w = w' := by
  obtain ⟨wv, ev, ba, bc, a, c, h1, h2, h3, h4⟩ := h
  have c7 := Mm.cellOf (i := 7) (v := ev) h1 rfl
  have H3 := Pl.hid h3
  clear h1 h2 h3 h4
  go_enter Tryz.func27, Tryz.ntmps27
  go_wp2_with fail
  go_ret
  exact ⟨⟨ev, rfl, H3.out⟩, rfl⟩

namespace Mm
open Pl
theorem bytes_alloc (w : World) (l : List UInt8) (fr : Nat × Nat) : BytesAt (w.alloc (.cells (bytesV l).toArray 5 fr)) w.heap.size 0 l := fun j hj => by
  rw [Nat.zero_add, World.cell?_alloc_mark]
  simp only [List.getElem?_toArray, bytesV, List.getElem?_map, List.getElem?_eq_getElem hj, Option.map_some, Option.some.injEq]
  unfold byteV at_
  rw [List.getD_eq_getElem?_getD, List.getElem?_eq_getElem hj]
  rfl
theorem bs_alloc (w : World) (l : List UInt8) (fr : Nat × Nat) (n : Nat) (hn : n = l.length) : Bs (w.alloc (.cells (bytesV l).toArray 5 fr)) (.slice (some ⟨w.heap.size, 0, none⟩) n n) l := by
  subst hn
  exact ⟨_, _, rfl, Nat.le_refl _, fun e => (by cases e), fun _ => ⟨_, _, rfl, bytes_alloc w l fr⟩⟩
theorem rowT_alloc (w : World) (l : List (List UInt8)) (n : Nat) (hn : n = l.length) : RowT (w.alloc (.cells (strsV l).toArray 9)) (.slice (some ⟨w.heap.size, 0, none⟩) n n) l := by
  subst hn
  refine ⟨_, _, rfl, Nat.le_refl _, fun _ => ⟨_, _, rfl, fun i s hs => ?_⟩⟩
  rw [Nat.zero_add, World.cell?_alloc_mark]
  simp [strsV, hs]
theorem PB.below {w w' : World} {p : Nat} {buf : List UInt8} {st : Pst} {G : Nat → Prop} (h : PB w p buf st G) (hb : Below w.heap.size w w') : PB w' p buf st G := by
  obtain ⟨bv, F, h1, h2, h3, h4⟩ := h
  exact ⟨bv, F, h1.below hb, h2.keep (fun g hg => hb.block g (h2.lt g hg).2), h3, h4⟩
theorem Chg.under0 {B : Nat} {W w w' : World} {F F' : Nat → Prop} (h : Chg w F w' F') (hB : B ≤ W.heap.size) (hW : Below B W w) (hF : ∀ g, F g → B ≤ g) : Below B W w' :=
  ⟨h.os.trans hW.os, h.tape.trans hW.tape, h.output.trans hW.output, Nat.le_trans hW.size h.size, fun g hg => (h.block g (Nat.lt_of_lt_of_le hg (Nat.le_trans hB hW.size)) (fun hf => by have := hF g hf; omega)).trans (hW.block g hg)⟩
theorem OwnS.st {w w' : World} {p : Nat} {v : Value} {l : List (List UInt8)} (h : OwnS w (p + 1) v l) (hg : w.grownBy w' (some p)) : OwnS w' (p + 1) v l :=
  h.keep fun g0 hg0 => hg.block g0 (h.lt g0 hg0).2 (fun e => by injection e with e; have := (h.lt g0 hg0).1; omega)
end Mm
end Go.Proofs.YtgpbgldnaongnaaGreatDoor

namespace Go.Proofs.YtgpbgldnaongnaaGreatDoor
open Go.RowKit
set_option maxRecDepth 20000

namespace Mm
open Pl
/-- a row of rows of texts that may be read -/
def RowC (w : World) (v : Value) (ls : List (List (List UInt8))) : Prop := ∃ a c, v = .slice a ls.length c ∧ ls.length ≤ c ∧ (0 < ls.length → ∃ g o, a = some ⟨g, o, none⟩ ∧ ∀ i l, ls[i]? = some l → ∃ vi, w.cell? ⟨g, o + i, none⟩ = some vi ∧ RowT w vi l)
theorem RowC.below {w w' : World} {v : Value} {ls : List (List (List UInt8))} (h : RowC w v ls) (hb : Below w.heap.size w w') : RowC w' v ls := by
  obtain ⟨a, c, h1, h2, h3⟩ := h
  refine ⟨a, c, h1, h2, fun hp => ?_⟩
  obtain ⟨g, o, e, hc⟩ := h3 hp
  refine ⟨g, o, e, fun i l hl => ?_⟩
  obtain ⟨vi, k1, k2⟩ := hc i l hl
  exact ⟨vi, (hb.cell (p := ⟨g, o + i, none⟩) (World.block_lt_of_cell? _ _ k1)).trans k1, k2.below hb⟩
/-- a parser of which so many commands were not told yet, from such a place on -/
def PNc (w : World) (p g o m : Nat) (st : Pst) (nb : Nat) : Prop :=
  ∃ wv ev ba bc a c, w.heap[p]? = some (.cells (cellsP (.slice ba nb bc) wv (.slice a m c) ev st) 64 (0, 0)) ∧ m ≤ c ∧ ErrV st.err ev ∧ (0 < m → a = some ⟨g, o, none⟩)
theorem PN.cells {w : World} {p : Nat} {rest : List (List (List UInt8))} {st : Pst} {nb : Nat} (h : PN w p rest st nb) : ∃ g o, PNc w p g o rest.length st nb ∧ (0 < rest.length → g ≠ p) ∧ ∀ i l, rest[i]? = some l → ∃ v, w.cell? ⟨g, o + i, none⟩ = some v ∧ OwnS w (p + 1) v l := by
  obtain ⟨wv, ev, ba, bc, a, c, h1, h2, h3, h4⟩ := h
  rcases Nat.eq_zero_or_pos rest.length with h0 | h0
  · refine ⟨0, 0, ⟨wv, ev, ba, bc, a, c, h1, h2, h3, fun h => by omega⟩, fun h => by omega, fun i l hl => ?_⟩
    have := (List.getElem?_eq_some_iff.1 hl).1
    omega
  · obtain ⟨g, o, e, hne, hc⟩ := h4 h0
    exact ⟨g, o, ⟨wv, ev, ba, bc, a, c, h1, h2, h3, fun _ => e⟩, fun _ => hne, hc⟩
theorem PNc.keep {w w' : World} {p g o m : Nat} {st : Pst} {nb : Nat} (h : PNc w p g o m st nb) (hb : w'.heap[p]? = w.heap[p]?) : PNc w' p g o m st nb := by
  obtain ⟨wv, ev, ba, bc, a, c, h1, h2⟩ := h
  exact ⟨wv, ev, ba, bc, a, c, hb.trans h1, h2⟩
end Mm

theorem pnext_c0 (p g o : Nat) (st : Pl.Pst) (nb : Nat) (w : World) (h : Mm.PNc w p g o 0 st nb) :
    Calls Tryz.prog 25 #[.pointer (some ⟨p, 0, none⟩)] w fun e w' => e = .returned (.tuple #[.slice none 0 0, .bool false]) ∧ w = w' := by
  obtain ⟨wv, ev, ba, bc, a, c, h1, h2, h3, h4⟩ := h
  have c6 := Mm.cellOf (i := 6) (v := .slice a 0 c) h1 rfl
  clear h1 h2 h3 h4
  go_enter Tryz.func25, Tryz.ntmps25
  go_wp2_with fail
  go_ret2
  exact ⟨rfl, rfl⟩

set_option maxHeartbeats 4000000 in
theorem pnext_c (p g o m : Nat) (va : Option Addr) (vn vc : Nat) (st : Pl.Pst) (nb : Nat) (w : World) (h : Mm.PNc w p g o (m + 1) st nb) (e0 : w.cell? ⟨g, o, none⟩ = some (.slice va vn vc)) :
    Calls Tryz.prog 25 #[.pointer (some ⟨p, 0, none⟩)] w fun e w' => e = .returned (.tuple #[.slice va vn vc, .bool true]) ∧ Mm.PNc w' p g (o + 1) m st nb ∧ w.grownBy w' (some p) := by
  obtain ⟨wv, ev, ba, bc, a, c, h1, h2, h3, h4⟩ := h
  obtain rfl := h4 (by omega)
  have c6 := Mm.cellOf (i := 6) (v := .slice (some ⟨g, o, none⟩) (m + 1) c) h1 rfl
  have H1 := Pl.hid h1
  have H3 := Pl.hid h3
  have hpl : p < w.heap.size := (Array.getElem?_eq_some_iff.1 h1).1
  have hcz : ¬ c = 0 := by omega
  clear h1 h3 h4
  go_enter Tryz.func25, Tryz.ntmps25
  rcases Decidable.em (c = 1) with hc1 | hc1
  · subst hc1
    obtain rfl : m = 0 := by omega
    go_wp2_with (first | (refine Mm.wp_storeF _ rfl 62 _ _ (by rfl) (by kernel_rfl) p 6 64 _ _ H1.out (by rfl) (by rfl) (by simp [Mm.cellsP]) rfl rfl ?_; intro w6 h6 hz6 hg6; have H6 := Pl.hid h6; have HG6 := Pl.hid hg6; clear h6 hz6 hg6 c6 e0))
    go_ret2
    exact ⟨rfl, ⟨wv, ev, ba, bc, _, _, H6.out, Nat.zero_le _, H3.out, fun h => by omega⟩, HG6.out⟩
  · go_wp2_with (first | (refine Mm.wp_storeF _ rfl 62 _ _ (by rfl) (by kernel_rfl) p 6 64 _ _ H1.out (by rfl) (by rfl) (by simp [Mm.cellsP]) rfl rfl ?_; intro w6 h6 hz6 hg6; have H6 := Pl.hid h6; have HG6 := Pl.hid hg6; clear h6 hz6 hg6 c6 e0))
    go_ret2
    exact ⟨rfl, ⟨wv, ev, ba, bc, _, _, H6.out, by omega, H3.out, fun _ => rfl⟩, HG6.out⟩

end Go.Proofs.YtgpbgldnaongnaaGreatDoor
