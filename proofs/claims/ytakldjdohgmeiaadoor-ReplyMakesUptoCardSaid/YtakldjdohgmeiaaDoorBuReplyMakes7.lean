/- A parser's Feed. Conditions stand in each law. reply's lay of a bulk, and of an array of bulks. Conditions stand in each law. reply's lay of an array of bulks; Bulks; Request. Conditions stand in each law. A parser that is asked: Go's New, Next, Err, Held; rows of texts. Conditions stand in each law. reply's Bulk, Bulks, Request. Conditions stand in each law. Conditions stand in each law. -/
import Derived.Test.YtakldjdohgmeiaaDoorBuReplyMakes6
import Derived.Laws.AppendOwnNone
import Derived.Test.YtakldjdohgmeiaaDoorBuReplyMakes3
import Derived.Lib.AppendStr
namespace Go.Proofs.YtakldjdohgmeiaaDoor
open Go.RowKit
set_option maxRecDepth 20000

namespace Pl
def feedA (st : Pst) (buf b : List UInt8) : Pst × List UInt8 :=
  if (feedM ((buf ++ b).length + 1) st (buf ++ b)).1.err = true then ({ (feedM ((buf ++ b).length + 1) st (buf ++ b)).1 with used := 0, words := [] }, []) else feedM ((buf ++ b).length + 1) st (buf ++ b)
theorem feedM_err {f : Nat} {st : Pst} {l : List UInt8} (h : st.err = true) : feedM (f + 1) st l = (st, l) := by unfold feedM; rw [if_pos h]
theorem feedM_stop {f : Nat} {st : Pst} {l : List UInt8} (h : st.err = false) (hn : (partM st l).1 = 0) : feedM (f + 1) st l = ((partM st l).2, l) := by unfold feedM; rw [if_neg (by rw [h]; simp), if_pos hn]
theorem feedM_go {f : Nat} {st : Pst} {l : List UInt8} (h : st.err = false) (hn : (partM st l).1 ≠ 0) : feedM (f + 1) st l = feedM f (partM st l).2 (l.drop (partM st l).1) := by
  conv => lhs; unfold feedM
  rw [if_neg (by rw [h]; simp), if_neg hn]
theorem feedA_err {st st' : Pst} {buf b T r : List UInt8} (h : buf ++ b = T) (hf : feedM (T.length + 1) st T = (st', r)) (he : st'.err = true) : feedA st buf b = ({ st' with used := 0, words := [] }, []) := by
  unfold feedA
  rw [h, hf]
  exact if_pos he
theorem feedA_ok {st st' : Pst} {buf b T r : List UInt8} (h : buf ++ b = T) (hf : feedM (T.length + 1) st T = (st', r)) (he : st'.err = false) : feedA st buf b = (st', r) := by
  unfold feedA
  rw [h, hf]
  exact if_neg (by rw [he]; simp)
end Pl

namespace Mm
open Pl
/-- a slice of bytes that came in -/
def Bs (w : World) (v : Value) (l : List UInt8) : Prop := ∃ a c, v = .slice a l.length c ∧ l.length ≤ c ∧ (a = none → c = 0) ∧ (0 < l.length → ∃ g o, a = some ⟨g, o, none⟩ ∧ BytesAt w g o l)
theorem Bs.rest {w : World} {v : Value} {l : List UInt8} (h : Bs w v l) : Rest w v l := by
  obtain ⟨a, c, h1, h2, _, h4⟩ := h
  exact ⟨a, c, h1, h2, h4⟩
theorem OwnB.bs {w : World} {b : Nat} {v : Value} {l : List UInt8} (h : OwnB w b v l) : Bs w v l := by
  obtain ⟨a, c, rfl, h0 | ⟨g, rfl, _, hg, hle⟩⟩ := h.val
  · exact ⟨_, _, rfl, by omega, fun _ => h0.2.2, fun h => by omega⟩
  · exact ⟨_, _, rfl, hle, fun e => (by cases e), fun _ => ⟨g, 0, rfl, h.bytesAt⟩⟩
theorem Bs.keep {w w' : World} {v : Value} {l : List UInt8} (h : Bs w v l) (hb : ∀ a n c g o, v = .slice a n c → a = some ⟨g, o, none⟩ → 0 < n → g < w.heap.size → w'.heap[g]? = w.heap[g]?) : Bs w' v l := by
  obtain ⟨a, c, h1, h2, h3, h4⟩ := h
  refine ⟨a, c, h1, h2, h3, fun hl => ?_⟩
  obtain ⟨g, o, e, hm⟩ := h4 hl
  exact ⟨g, o, e, hm.keep (hb a _ c g o h1 e hl (hm.lt hl))⟩
/-- 'append(s, b...)' -/
theorem wp_appW {ops : Array Oper} {rest : List Oper} {o : Oper} {a : Act} {Q : Exit → Act → World → Prop} (w : World) (hgd : o.guard = none) (x y : Operand)
    (ho : o.op = .call { callee := .builtin .append, args := #[x, y], argTypes := #[24, 24] })
    (base : Nat) (v : Value) (l : List UInt8) (hx : a.eval x = v) (h : OwnB w base v l) (vy : Value) (m : List UInt8) (hy : a.eval y = vy) (hm : Bs w vy m)
    (hl : l.length + m.length ≤ 140737488355328) (hbase : base ≤ w.heap.size)
    (hK : ∀ v' w', OwnB w' base v' (l ++ m) → w.grownBy w' v.ownBlock → (v'.ownBlock = v.ownBlock ∨ v'.ownBlock = some w.heap.size) → wpList Tryd.prog ops Q rest (a.put o.dst v') w') :
    wpList Tryd.prog ops Q (o :: rest) a w := by
  obtain ⟨i0, hi, hz0, hz1, hz2⟩ := info_parts Tryd.info_u8
  obtain ⟨p, c, rfl, hc, hn, hb⟩ := hm
  have hlen : (bytesV m).length = m.length := by simp [bytesV]
  cases p with
  | none =>
    obtain rfl := hn rfl
    have h0 : m.length = 0 := by omega
    obtain rfl : m = [] := List.eq_nil_of_length_eq_zero h0
    refine wpList_append_own_none hgd x y 24 ho base 5 i0 1 Tryd.underlying24 hi v l.length (bytesV l) hx h hy ?_
    exact hK v w (by rw [List.append_nil]; exact h) ⟨rfl, rfl, rfl, Nat.le_refl _, fun _ _ _ => rfl⟩ (.inl rfl)
  | some ad =>
    refine wpList_append_own_at _ hgd x y 24 ho base 5 i0 (.int .u8 0) 1 1 Tryd.underlying24 hi hz0 hz1 hz2 rfl (by decide) v l.length (bytesV l) hx h ad m.length c (bytesV m) hy (by rw [hlen]; omega) ?_ (bytesV_one m) ?_ (by omega) hbase ?_
    · intro j u hj
      have hj' : j < m.length := by
        have := (List.getElem?_eq_some_iff.1 hj).1
        simpa [bytesV] using this
      obtain ⟨g, off, e, hm⟩ := hb (by omega)
      injection e with e
      subst e
      have e : (⟨g, off, none⟩ : Addr).add j = ⟨g, off + j, none⟩ := by unfold Addr.add; split <;> simp_all
      rw [e, hm j hj']
      simp only [bytesV, List.getElem?_map, List.getElem?_eq_getElem hj', Option.map_some, Option.some.injEq] at hj
      rw [← hj]
      unfold at_ byteV
      rw [List.getD_eq_getElem?_getD, List.getElem?_eq_getElem hj']
      rfl
    · unfold maxLen; omega
    · intro v' w' h1 h2 _ h4
      refine hK v' w' ?_ h2 h4
      unfold OwnB
      rw [bytesV_append, List.length_append]
      exact h1
theorem PQ.lt {w : World} {p : Nat} {bv : Value} {st : Pst} {F : Nat → Prop} (h : PQ w p bv st F) (g : Nat) (hg : F g) : p ≤ g ∧ g < w.heap.size := by
  obtain ⟨wv, rv, ev, rows, h, rfl⟩ := h
  rcases hg with rfl | hg | hg | ⟨v, hv, hg⟩
  · exact ⟨Nat.le_refl _, h.lt⟩
  · have := h.2.1.lt g hg; omega
  · have := h.2.2.1.lt g hg; omega
  · obtain ⟨l, hl⟩ := h.2.2.2.1.row hv
    have := hl.lt g hg
    omega
theorem PQ.own {w : World} {p : Nat} {bv : Value} {st : Pst} {F : Nat → Prop} (h : PQ w p bv st F) : F p := by
  obtain ⟨wv, rv, ev, rows, h, rfl⟩ := h
  exact .inl rfl
theorem PV.keepF {w w' : World} {p : Nat} {bv wv rv ev : Value} {st : Pst} {rows : List Value} (h : PV w p bv st wv rv ev rows) (hb : ∀ g, g < w.heap.size → foot p wv rv rows g → w'.heap[g]? = w.heap[g]?) : PV w' p bv st wv rv ev rows :=
  ⟨(hb p h.lt (.inl rfl)).trans h.1, h.2.1.keep (fun g hg => hb g (h.2.1.lt g hg).2 (.inr (.inl hg))), ownsRow_keep h.2.2.1 (fun g hg => hb g (h.2.2.1.lt g hg).2 (.inr (.inr (.inl hg)))), h.2.2.2.1.keep (fun v hv g hg => by
    obtain ⟨l, ho⟩ := h.2.2.2.1.row hv
    exact hb g (ho.lt g hg).2 (.inr (.inr (.inr ⟨v, hv, hg⟩)))), h.2.2.2.2⟩
theorem Chg.or {w w' : World} {F F' : Nat → Prop} (h : Chg w F w' F') (v : Value) : Chg w (fun g => F g ∨ v.ownBlock = some g) w' (fun g => F' g ∨ v.ownBlock = some g) :=
  ⟨h.os, h.tape, h.output, h.size, fun g hg hn => h.block g hg (fun hf => hn (.inl hf)), fun g hg => by
    rcases hg with hg | hg
    · rcases h.foot g hg with h | h
      · exact .inl (.inl h)
      · exact .inr h
    · exact .inl (.inr hg)⟩
/-- the stretch lies in the row's block -/
def InB (rv v : Value) : Prop := ∀ a n c g o, rv = .slice a n c → a = some ⟨g, o, none⟩ → 0 < n → v.ownBlock = some g
theorem OwnB.inB {w : World} {b : Nat} {v : Value} {l : List UInt8} (h : OwnB w b v l) : InB v v := by
  intro a n c g o e ha hn
  subst e ha
  rcases h.2 with ⟨e, h0⟩ | ⟨g', cap, cur, e, _⟩
  · injection e with e1 e2
    cases e1
  · injection e with e1 e2
    injection e1 with e1
    injection e1 with e1 e3
    subst e1 e3
    rfl
def sliceN : Value → Nat | .slice _ n _ => n | _ => 0
/-- a parser, whose bytes are held in blocks of its own; G: what it may change -/
def PB (w : World) (p : Nat) (buf : List UInt8) (st : Pst) (G : Nat → Prop) : Prop :=
  ∃ bv F, PQ w p bv st F ∧ OwnB w (p + 1) bv buf ∧ (∀ g, bv.ownBlock = some g → ¬ F g) ∧ ∀ g, G g ↔ F g ∨ bv.ownBlock = some g
end Mm

set_option maxHeartbeats 8000000 in
theorem feed_walk (p : Nat) (v : Value) (b buf : List UInt8) (st : Pl.Pst) (G : Nat → Prop) (W w : World) (hpW : W.heap.size ≤ p) (hR : Mm.RErr W) (hE : Mm.Errs W) (hI : Mm.InlE W) (hW : Below W.heap.size W w) (hl : b.length ≤ 16777216) (hbl : buf.length ≤ 16777216) (hv : Mm.Bs w v b)
    (hp : Mm.PB w p buf st G) (he : st.err = false) (hok : Pl.okP st) (U : Nat) (hb : Pl.bnd st U) (hU : U + buf.length + b.length ≤ 1099511627776) :
    Calls Tryd.prog 41 #[.pointer (some ⟨p, 0, none⟩), v] w fun e w' => e = .returned (.int .i64 0) ∧ ∃ G', Mm.PB w' p (Pl.feedA st buf b).2 (Pl.feedA st buf b).1 G' ∧ Mm.Chg w G w' G' := by
  obtain ⟨bv, F, hq, ho, hd, hG⟩ := hp
  obtain ⟨wv, rv, ev, rows, hpv, hF⟩ := hq
  obtain ⟨a, c, rfl, hc, hn, hbytes⟩ := hv
  have hev : ev = .nilIface := by
    rcases hpv.2.2.2.2.2.2 with ⟨e, _⟩ | ⟨_, e⟩
    · rw [he] at e; cases e
    · exact e
  subst hev
  have HBs : Hid (Mm.Bs w (.slice a b.length c) b) := ⟨a, c, rfl, hc, hn, hbytes⟩
  have c7 := hpv.cell 7 .nilIface rfl
  have c0 := hpv.cell 0 bv rfl
  have HV := Pl.hid hpv
  have HF := Pl.hid hF
  have HO := Pl.hid ho
  have HD := Pl.hid hd
  have HGG := Pl.hid hG
  have HR := Pl.hid hR
  have HE := Pl.hid hE
  have HI := Pl.hid hI
  have HW := Pl.hid hW
  have HPW := Pl.hid hpW
  have hpl := hpv.lt
  have HPL := Pl.hid hpl
  have HB := Pl.hid hb
  have HOK := Pl.hid hok
  have He := Pl.hid he
  have HLEN : Hid (buf.length + b.length ≤ 140737488355328) := by show _ ≤ _; omega
  clear hpv hF ho hd hG hR hE hI hW hpW hbytes hc hn hb hok he
  have hTl : (buf ++ b).length = buf.length + b.length := List.length_append
  obtain ⟨T, hT⟩ : ∃ T, buf ++ b = T := ⟨_, rfl⟩
  rw [hT] at hTl
  have HT := Pl.hid hT
  have HTL := Pl.hid hTl
  clear hT hTl
  go_enter Tryd.func41, Tryd.ntmps41
  go_wp2_with (at_builtin; refine Mm.wp_appW w rfl _ _ (by rfl) (p + 1) bv buf (by rfl) HO.out _ b (by rfl) HBs.out HLEN.out hpl ?_; intro v1 w1 ho1 hg1 hat1; refine Hid.out ?_)
  refine Pl.hid ?_
  rw [HT.out] at ho1
  obtain ⟨a1, c1, rfl, hv1⟩ := ho1.val
  have HF1 : Hid (∀ g, (Value.slice a1 T.length c1).ownBlock = some g → ¬ F g) := fun g hg hf => by
    rcases hat1 with e | e
    · exact HD.out g (by rw [← e]; exact hg) hf
    · rw [e] at hg
      injection hg with hg
      have := (Mm.PQ.lt ⟨wv, rv, _, rows, HV.out, HF.out⟩ g hf).2
      omega
  have HV1 : Hid (Mm.PV w1 p bv st wv rv .nilIface rows) := HV.out.keepF fun g hgl hf => hg1.block g hgl (fun e => HD.out g e.symm (by rw [HF.out]; exact hf))
  have HO1 := Pl.hid ho1
  have HG1 := Pl.hid hg1
  have HAT := Pl.hid hat1
  have hpl1 := HV1.out.lt
  clear ho1 hg1 hat1 hv1 c7 c0
  go_wp2_with (first | (refine Mm.wp_storeF _ rfl 24 _ _ (by rfl) (by kernel_rfl) p 0 90 (Mm.cellsP bv wv rv .nilIface st) _ HV1.out.1 (by rfl) (by rfl) (by simp [Mm.cellsP]) rfl rfl ?_; intro w2 h2 hz2 hg2; refine Hid.out ?_))
  refine Pl.hid ?_
  have HV2 : Hid (Mm.PV w2 p (.slice a1 T.length c1) st wv rv .nilIface rows) := HV1.out.store hg2 h2 rfl rfl HV1.out.2.2.2.2.2.2
  have HO2 : Hid (Mm.OwnB w2 (p + 1) (.slice a1 T.length c1) T) := HO1.out.keep fun g hg => hg2.block g (HO1.out.lt g hg).2 (fun e => by injection e with e; have := (HO1.out.lt g hg).1; omega)
  have HC2 : Hid (Mm.Chg w G w2 (fun g => F g ∨ (Value.slice a1 T.length c1).ownBlock = some g)) := by
    have hz := HG1.out.size
    refine ⟨hg2.os.trans HG1.out.os, hg2.tape.trans HG1.out.tape, hg2.output.trans HG1.out.output, Nat.le_trans hz hg2.size, fun g hgl hng => ?_, fun g hg => ?_⟩
    · rw [hg2.block g (by omega) (fun e => by injection e with e; exact hng ((HGG.out g).2 (.inl (by rw [HF.out]; exact .inl e)))), HG1.out.block g hgl (fun e => hng ((HGG.out g).2 (.inr e.symm)))]
    · rcases hg with hg | hg
      · exact .inl ((HGG.out g).2 (.inl hg))
      · rcases HAT.out with e | e
        · exact .inl ((HGG.out g).2 (.inr (by rw [← e]; exact hg)))
        · rw [e] at hg
          injection hg with hg
          exact .inr (by omega)
  have HW2 : Hid (Below W.heap.size W w2) := HC2.out.under HW.out fun g hg => by
    rcases (HGG.out g).1 hg with hg | hg
    · have := (Mm.PQ.lt ⟨wv, rv, _, rows, HV.out, HF.out⟩ g hg).1
      have := HPW.out
      omega
    · have := (HO.out.lt g hg).1
      have := HPW.out
      omega
  have c0 := HV2.out.cell 0 (.slice a1 T.length c1) rfl
  clear h2 hz2 hg2
  go_wp2_with fail
  clear c0
  go_loopw [5, 6] (fun rv' _ wr => ∃ (rest : List UInt8) (st1 : Pl.Pst) (F1 : Nat → Prop) (f U1 : Nat) (a2 : Option Addr) (c2 : Nat), rv' = .slice a2 rest.length c2 ∧ Hid (Mm.Bs wr (.slice a2 rest.length c2) rest ∧ Mm.InB (.slice a2 rest.length c2) (.slice a1 T.length c1)) ∧ rest.length ≤ T.length ∧
      Hid (Mm.PQ wr p (.slice a1 T.length c1) st1 F1) ∧ Hid (Mm.Chg w2 F wr F1) ∧ Hid (Mm.OwnB wr (p + 1) (.slice a1 T.length c1) T) ∧ Hid (∀ g, (Value.slice a1 T.length c1).ownBlock = some g → ¬ F1 g) ∧
      Hid (Pl.feedM f st1 rest = Pl.feedM (T.length + 1) st T) ∧ Hid (rest.length < f) ∧ Hid (Pl.okP st1) ∧ Hid (Pl.bnd st1 U1) ∧ U1 + rest.length ≤ U + T.length ∧ Hid (rest.length = T.length → rest = T)) (fun rv' _ _ => Mm.sliceN rv')
  case atStart => exact ⟨T, st, F, T.length + 1, U, a1, c1, rfl, ⟨HO2.out.bs, HO2.out.inB⟩, Nat.le_refl _, ⟨wv, rv, .nilIface, rows, HV2.out, HF.out⟩, Mm.Chg.refl _ _, HO2.out, HF1.out, rfl, Nat.lt_succ_self _, HOK.out, HB.out, Nat.le_refl _, fun _ => rfl⟩
  case round =>
    obtain ⟨rest, st1, F1, f, U1, a2, c2, rfl, HBR, hrl, HQ, HCH, HOW, HDJ, HFM, HLF, HOK1, HB1, hU1, HEQ⟩ := hrel
    obtain ⟨f, rfl⟩ : ∃ f', f = f' + 1 := ⟨f - 1, by have := HLF.out; omega⟩
    have HWr : Hid (Below W.heap.size W wr) := HCH.out.under HW2.out fun g hg => by
      have := (Mm.PQ.lt ⟨wv, rv, _, rows, HV2.out, HF.out⟩ g hg).1
      have := HPW.out
      omega
    obtain ⟨wv1, rv1, ev1, rows1, hpv1, hF1⟩ := HQ.out
    cases he1 : st1.err with
    | true =>
      obtain ⟨T3, x3, rfl⟩ : ∃ T x, ev1 = .iface T x := by
        rcases hpv1.2.2.2.2.2.2 with ⟨_, h⟩ | ⟨h, _⟩
        · exact h
        · rw [he1] at h; cases h
      have HERR := Pl.hid he1
      have HFMX : Hid (Pl.feedM (T.length + 1) st T = (st1, rest)) := HFM.out.symm.trans (Pl.feedM_err he1)
      have c7 := hpv1.cell 7 (.iface T3 x3) rfl
      have HVX := Pl.hid hpv1
      have HFX := Pl.hid hF1
      have HCX := HCH
      have HOX := HOW
      have HDX := HDJ
      have HRX : Hid (Mm.Bs wr (.slice a2 rest.length c2) rest) := HBR.out.1
      clear hpv1 hF1 he1
      have c0 := HVX.out.cell 0 (.slice a1 T.length c1) rfl
      have hplX := HVX.out.lt
      have hl47 : ([] : List UInt8).length + rest.length ≤ 140737488355328 := by have := HTL.out; simp; omega
      have HPQX : Hid (Mm.PQ wr p (.slice a1 T.length c1) st1 F1) := ⟨_, _, _, _, HVX.out, HFX.out⟩
      have HGX : Hid (Mm.Chg w G wr (fun g => F1 g ∨ (Value.slice a1 T.length c1).ownBlock = some g)) := HC2.out.trans (HCX.out.or _)
      rcases Nat.lt_or_ge rest.length T.length with hlt | hge
      · go_wp2_with (first
          | (at_builtin; refine Mm.wp_appW wr rfl _ _ (by rfl) (p + 1) (.slice none 0 0) [] (by rfl) (Mm.ownB_nil _ _) _ rest (by rfl) HRX.out hl47 hplX ?_; intro v5 w5 ho5 hg5 hat5; obtain ⟨a5, k5, rfl, _⟩ := ho5.val; have HO5 := Pl.hid ho5; have HG5 := Pl.hid hg5; have HAT5 := Pl.hid hat5; have HV5 := Pl.hid (HVX.out.below ((Below.refl _ _).grown HG5.out (Nat.le_refl _) (fun k hk => by cases hk))); clear ho5 hg5 hat5)
          | (refine Mm.wp_storeF _ rfl 24 _ _ (by rfl) (by kernel_rfl) p 0 90 _ _ H6.out (by rfl) (by rfl) (by simp [Mm.cellsP]) rfl rfl ?_; intro w7 h7 hz7 hg7; have H7 := Pl.hid h7; have HG7 := Pl.hid hg7; clear h7 hz7 hg7; clear c7)
          | (refine Mm.wp_storeF _ rfl 24 _ _ (by rfl) (by kernel_rfl) p 0 90 (Mm.cellsP (.slice a1 T.length c1) wv1 rv1 (Value.iface T3 x3) st1) _ HV5.out.1 (by rfl) (by rfl) (by simp [Mm.cellsP]) rfl rfl ?_; intro w6 h6 hz6 hg6; have H6 := Pl.hid h6; have HG6 := Pl.hid hg6; clear h6 hz6 hg6; have c7 := Mm.cellOf (i := 7) (v := (Value.iface T3 x3)) H6.out rfl)
          | (refine Mm.wp_storeF _ rfl 3 _ _ (by rfl) (by kernel_rfl) p 1 90 _ _ H7.out (by rfl) (by rfl) (by simp [Mm.cellsP]) rfl rfl ?_; intro w8 h8 hz8 hg8; have H8 := Pl.hid h8; have HG8 := Pl.hid hg8; clear h8 hz8 hg8)
          | (refine Mm.wp_storeF _ rfl 22 _ _ (by rfl) (by kernel_rfl) p 2 90 _ _ H8.out (by rfl) (by rfl) (by simp [Mm.cellsP]) rfl rfl ?_; intro w9 h9 hz9 hg9; have H9 := Pl.hid h9; have HG9 := Pl.hid hg9; clear h9 hz9 hg9))
        go_ret
        rw [Pl.feedA_err HT.out HFMX.out HERR.out]
        have hgz := Mm.gTrans HG6.out (Mm.gTrans HG7.out (Mm.gTrans HG8.out HG9.out))
        have hvz := HV5.out
        have hbz : Below wr.heap.size wr w5 := (Below.refl _ _).grown HG5.out (Nat.le_refl _) (fun k hk => by cases hk)
        refine ⟨rfl, _, ⟨.slice none 0 0, Mm.foot p (.slice none 0 0) rv1 rows1, ⟨_, _, _, _, hvz.clear hgz H9.out rfl rfl ?_, rfl⟩, Mm.ownB_nil _ _, fun g hg => (by cases hg), fun g => Iff.rfl⟩, ?_⟩
        · first | exact HVX.out.2.2.2.2.2.2 | exact .inl ⟨rfl, _, _, rfl⟩ | exact .inl ⟨HERR.out, _, _, rfl⟩
        · refine HGX.out.trans ((Mm.Chg.below hbz).trans (Mm.Chg.grown hgz (fun g e => by injection e with e; exact .inl (by rw [HFX.out]; exact .inl e.symm)) (fun g hg => ?_)))
          rcases hg with (h | h | h) | h
          · exact .inl (.inl (by rw [HFX.out]; exact .inl h))
          · cases h
          · exact .inl (.inl (by rw [HFX.out]; exact .inr (.inr h)))
          · cases h
      · obtain rfl : rest = T := HEQ.out (by omega)
        go_wp2_with (first
          | (refine Mm.wp_storeF _ rfl 24 _ _ (by rfl) (by kernel_rfl) p 0 90 (Mm.cellsP (.slice a1 rest.length c1) wv1 rv1 (Value.iface T3 x3) st1) _ HVX.out.1 (by rfl) (by rfl) (by simp [Mm.cellsP]) rfl rfl ?_; intro w7 h7 hz7 hg7; have H7 := Pl.hid h7; have HG7 := Pl.hid hg7; clear h7 hz7 hg7; clear c7)
          | (refine Mm.wp_storeF _ rfl 3 _ _ (by rfl) (by kernel_rfl) p 1 90 _ _ H7.out (by rfl) (by rfl) (by simp [Mm.cellsP]) rfl rfl ?_; intro w8 h8 hz8 hg8; have H8 := Pl.hid h8; have HG8 := Pl.hid hg8; clear h8 hz8 hg8)
          | (refine Mm.wp_storeF _ rfl 22 _ _ (by rfl) (by kernel_rfl) p 2 90 _ _ H8.out (by rfl) (by rfl) (by simp [Mm.cellsP]) rfl rfl ?_; intro w9 h9 hz9 hg9; have H9 := Pl.hid h9; have HG9 := Pl.hid hg9; clear h9 hz9 hg9))
        go_ret
        rw [Pl.feedA_err HT.out HFMX.out HERR.out]
        have hgz := Mm.gTrans HG7.out (Mm.gTrans HG8.out HG9.out)
        refine ⟨rfl, _, ⟨.slice none 0 0, Mm.foot p (.slice none 0 0) rv1 rows1, ⟨_, _, _, _, HVX.out.clear hgz H9.out rfl rfl ?_, rfl⟩, Mm.ownB_nil _ _, fun g hg => (by cases hg), fun g => Iff.rfl⟩, ?_⟩
        · first | exact HVX.out.2.2.2.2.2.2 | exact .inl ⟨rfl, _, _, rfl⟩ | exact .inl ⟨HERR.out, _, _, rfl⟩
        · refine HGX.out.trans (Mm.Chg.grown hgz (fun g e => by injection e with e; exact .inl (by rw [HFX.out]; exact .inl e.symm)) (fun g hg => ?_))
          rcases hg with (h | h | h) | h
          · exact .inl (.inl (by rw [HFX.out]; exact .inl h))
          · cases h
          · exact .inl (.inl (by rw [HFX.out]; exact .inr (.inr h)))
          · cases h
    | false =>
      obtain rfl : ev1 = .nilIface := by
        rcases hpv1.2.2.2.2.2.2 with ⟨h, _⟩ | ⟨_, h⟩
        · rw [he1] at h; cases h
        · exact h
      have c7 := hpv1.cell 7 .nilIface rfl
      have hpo := Pl.part_ok (l := rest) HOK1.out he1
      have HPC := Pl.hid (part_walk p (.slice a2 rest.length c2) rest (.slice a1 T.length c1) st1 F1 W wr HPW.out HR.out HE.out HI.out HWr.out (by have := HTL.out; omega) HBR.out.1.rest HQ.out he1 HOK1.out U1 HB1.out (by have := HTL.out; omega))
      have HSTOP := Pl.hid (fun h => Pl.feedM_stop (f := f) (l := rest) he1 h)
      have HGO := Pl.hid (fun h => Pl.feedM_go (f := f) (l := rest) he1 h)
      obtain ⟨k, hk⟩ : ∃ k, (Pl.partM st1 rest).1 = k := ⟨_, rfl⟩
      obtain ⟨st2, hst2⟩ : ∃ st2, (Pl.partM st1 rest).2 = st2 := ⟨_, rfl⟩
      rw [hk, hst2] at HPC hpo HSTOP HGO
      have HOK2 := Pl.hid hpo.1
      have HB2 := Pl.hid (hpo.2.2 U1 HB1.out)
      have hkl := hpo.2.1
      clear hk hst2 hpo hpv1 hF1 he1
      go_wp2_with fail
      refine HPC.out.mono ?_
      rintro e w3 ⟨rfl, F2, hq2, hch2⟩
      have hc3 := HCH.out.trans hch2
      have HCX := Pl.hid hc3
      have HBR3 : Hid (Mm.Bs w3 (.slice a2 rest.length c2) rest) := HBR.out.1.keep fun a n c g o e1 e2 e3 e4 => hch2.block g e4 (HDJ.out g (HBR.out.2 a n c g o e1 e2 e3))
      have HOX : Hid (Mm.OwnB w3 (p + 1) (.slice a1 T.length c1) T) := HOW.out.keep fun g hg => hch2.block g (HOW.out.lt g hg).2 (HDJ.out g hg)
      have HDX : Hid (∀ g, (Value.slice a1 T.length c1).ownBlock = some g → ¬ F2 g) := fun g hg hf => by
        rcases hch2.foot g hf with h | h
        · exact HDJ.out g hg h
        · have := (HOW.out.lt g hg).2
          omega
      have HQ2 := Pl.hid hq2
      clear c7 hch2 hc3 hq2
      rcases Nat.eq_zero_or_pos k with hk0 | hk0
      · subst hk0
        have HFMX : Hid (Pl.feedM (T.length + 1) st T = (st2, rest)) := HFM.out.symm.trans (HSTOP.out rfl)
        have HRX := HBR3
        obtain ⟨wvX, rvX, evX, rowsX, hpvX, hFX⟩ := HQ2.out
        have HVX := Pl.hid hpvX
        have HFX := Pl.hid hFX
        clear hpvX hFX
        have c7 := HVX.out.cell 7 evX rfl
        cases he2 : st2.err with
        | true =>
          have HERR := Pl.hid he2
          obtain ⟨T3, x3, rfl⟩ : ∃ T x, evX = .iface T x := by
            rcases HVX.out.2.2.2.2.2.2 with ⟨_, h⟩ | ⟨h, _⟩
            · exact h
            · rw [he2] at h; cases h
          clear he2
          have c0 := HVX.out.cell 0 (.slice a1 T.length c1) rfl
          have hplX := HVX.out.lt
          have hl47 : ([] : List UInt8).length + rest.length ≤ 140737488355328 := by have := HTL.out; simp; omega
          have HPQX : Hid (Mm.PQ w3 p (.slice a1 T.length c1) st2 F2) := ⟨_, _, _, _, HVX.out, HFX.out⟩
          have HGX : Hid (Mm.Chg w G w3 (fun g => F2 g ∨ (Value.slice a1 T.length c1).ownBlock = some g)) := HC2.out.trans (HCX.out.or _)
          rcases Nat.lt_or_ge rest.length T.length with hlt | hge
          · go_wp2_with (first
              | (at_builtin; refine Mm.wp_appW w3 rfl _ _ (by rfl) (p + 1) (.slice none 0 0) [] (by rfl) (Mm.ownB_nil _ _) _ rest (by rfl) HRX.out hl47 hplX ?_; intro v5 w5 ho5 hg5 hat5; obtain ⟨a5, k5, rfl, _⟩ := ho5.val; have HO5 := Pl.hid ho5; have HG5 := Pl.hid hg5; have HAT5 := Pl.hid hat5; have HV5 := Pl.hid (HVX.out.below ((Below.refl _ _).grown HG5.out (Nat.le_refl _) (fun k hk => by cases hk))); clear ho5 hg5 hat5)
              | (refine Mm.wp_storeF _ rfl 24 _ _ (by rfl) (by kernel_rfl) p 0 90 _ _ H6.out (by rfl) (by rfl) (by simp [Mm.cellsP]) rfl rfl ?_; intro w7 h7 hz7 hg7; have H7 := Pl.hid h7; have HG7 := Pl.hid hg7; clear h7 hz7 hg7; clear c7)
              | (refine Mm.wp_storeF _ rfl 24 _ _ (by rfl) (by kernel_rfl) p 0 90 (Mm.cellsP (.slice a1 T.length c1) wvX rvX (Value.iface T3 x3) st2) _ HV5.out.1 (by rfl) (by rfl) (by simp [Mm.cellsP]) rfl rfl ?_; intro w6 h6 hz6 hg6; have H6 := Pl.hid h6; have HG6 := Pl.hid hg6; clear h6 hz6 hg6; have c7 := Mm.cellOf (i := 7) (v := (Value.iface T3 x3)) H6.out rfl)
              | (refine Mm.wp_storeF _ rfl 3 _ _ (by rfl) (by kernel_rfl) p 1 90 _ _ H7.out (by rfl) (by rfl) (by simp [Mm.cellsP]) rfl rfl ?_; intro w8 h8 hz8 hg8; have H8 := Pl.hid h8; have HG8 := Pl.hid hg8; clear h8 hz8 hg8)
              | (refine Mm.wp_storeF _ rfl 22 _ _ (by rfl) (by kernel_rfl) p 2 90 _ _ H8.out (by rfl) (by rfl) (by simp [Mm.cellsP]) rfl rfl ?_; intro w9 h9 hz9 hg9; have H9 := Pl.hid h9; have HG9 := Pl.hid hg9; clear h9 hz9 hg9))
            go_ret
            rw [Pl.feedA_err HT.out HFMX.out HERR.out]
            have hgz := Mm.gTrans HG6.out (Mm.gTrans HG7.out (Mm.gTrans HG8.out HG9.out))
            have hvz := HV5.out
            have hbz : Below w3.heap.size w3 w5 := (Below.refl _ _).grown HG5.out (Nat.le_refl _) (fun k hk => by cases hk)
            refine ⟨rfl, _, ⟨.slice none 0 0, Mm.foot p (.slice none 0 0) rvX rowsX, ⟨_, _, _, _, hvz.clear hgz H9.out rfl rfl ?_, rfl⟩, Mm.ownB_nil _ _, fun g hg => (by cases hg), fun g => Iff.rfl⟩, ?_⟩
            · first | exact HVX.out.2.2.2.2.2.2 | exact .inl ⟨rfl, _, _, rfl⟩ | exact .inl ⟨HERR.out, _, _, rfl⟩
            · refine HGX.out.trans ((Mm.Chg.below hbz).trans (Mm.Chg.grown hgz (fun g e => by injection e with e; exact .inl (by rw [HFX.out]; exact .inl e.symm)) (fun g hg => ?_)))
              rcases hg with (h | h | h) | h
              · exact .inl (.inl (by rw [HFX.out]; exact .inl h))
              · cases h
              · exact .inl (.inl (by rw [HFX.out]; exact .inr (.inr h)))
              · cases h
          · obtain rfl : rest = T := HEQ.out (by omega)
            go_wp2_with (first
              | (refine Mm.wp_storeF _ rfl 24 _ _ (by rfl) (by kernel_rfl) p 0 90 (Mm.cellsP (.slice a1 rest.length c1) wvX rvX (Value.iface T3 x3) st2) _ HVX.out.1 (by rfl) (by rfl) (by simp [Mm.cellsP]) rfl rfl ?_; intro w7 h7 hz7 hg7; have H7 := Pl.hid h7; have HG7 := Pl.hid hg7; clear h7 hz7 hg7; clear c7)
              | (refine Mm.wp_storeF _ rfl 3 _ _ (by rfl) (by kernel_rfl) p 1 90 _ _ H7.out (by rfl) (by rfl) (by simp [Mm.cellsP]) rfl rfl ?_; intro w8 h8 hz8 hg8; have H8 := Pl.hid h8; have HG8 := Pl.hid hg8; clear h8 hz8 hg8)
              | (refine Mm.wp_storeF _ rfl 22 _ _ (by rfl) (by kernel_rfl) p 2 90 _ _ H8.out (by rfl) (by rfl) (by simp [Mm.cellsP]) rfl rfl ?_; intro w9 h9 hz9 hg9; have H9 := Pl.hid h9; have HG9 := Pl.hid hg9; clear h9 hz9 hg9))
            go_ret
            rw [Pl.feedA_err HT.out HFMX.out HERR.out]
            have hgz := Mm.gTrans HG7.out (Mm.gTrans HG8.out HG9.out)
            refine ⟨rfl, _, ⟨.slice none 0 0, Mm.foot p (.slice none 0 0) rvX rowsX, ⟨_, _, _, _, HVX.out.clear hgz H9.out rfl rfl ?_, rfl⟩, Mm.ownB_nil _ _, fun g hg => (by cases hg), fun g => Iff.rfl⟩, ?_⟩
            · first | exact HVX.out.2.2.2.2.2.2 | exact .inl ⟨rfl, _, _, rfl⟩ | exact .inl ⟨HERR.out, _, _, rfl⟩
            · refine HGX.out.trans (Mm.Chg.grown hgz (fun g e => by injection e with e; exact .inl (by rw [HFX.out]; exact .inl e.symm)) (fun g hg => ?_))
              rcases hg with (h | h | h) | h
              · exact .inl (.inl (by rw [HFX.out]; exact .inl h))
              · cases h
              · exact .inl (.inl (by rw [HFX.out]; exact .inr (.inr h)))
              · cases h
        | false =>
          have HERR := Pl.hid he2
          obtain rfl : evX = .nilIface := by
            rcases HVX.out.2.2.2.2.2.2 with ⟨h, _⟩ | ⟨_, h⟩
            · rw [he2] at h; cases h
            · exact h
          clear he2
          have c0 := HVX.out.cell 0 (.slice a1 T.length c1) rfl
          have hplX := HVX.out.lt
          have hl47 : ([] : List UInt8).length + rest.length ≤ 140737488355328 := by have := HTL.out; simp; omega
          have HPQX : Hid (Mm.PQ w3 p (.slice a1 T.length c1) st2 F2) := ⟨_, _, _, _, HVX.out, HFX.out⟩
          have HGX : Hid (Mm.Chg w G w3 (fun g => F2 g ∨ (Value.slice a1 T.length c1).ownBlock = some g)) := HC2.out.trans (HCX.out.or _)
          rcases Nat.lt_or_ge rest.length T.length with hlt | hge
          · go_wp2_with (first
              | (at_builtin; refine Mm.wp_appW w3 rfl _ _ (by rfl) (p + 1) (.slice none 0 0) [] (by rfl) (Mm.ownB_nil _ _) _ rest (by rfl) HRX.out hl47 hplX ?_; intro v5 w5 ho5 hg5 hat5; obtain ⟨a5, k5, rfl, _⟩ := ho5.val; have HO5 := Pl.hid ho5; have HG5 := Pl.hid hg5; have HAT5 := Pl.hid hat5; have HV5 := Pl.hid (HVX.out.below ((Below.refl _ _).grown HG5.out (Nat.le_refl _) (fun k hk => by cases hk))); clear ho5 hg5 hat5)
              | (refine Mm.wp_storeF _ rfl 24 _ _ (by rfl) (by kernel_rfl) p 0 90 (Mm.cellsP (.slice a1 T.length c1) wvX rvX Value.nilIface st2) _ HV5.out.1 (by rfl) (by rfl) (by simp [Mm.cellsP]) rfl rfl ?_; intro w6 h6 hz6 hg6; have H6 := Pl.hid h6; have HG6 := Pl.hid hg6; clear h6 hz6 hg6; have c7 := Mm.cellOf (i := 7) (v := Value.nilIface) H6.out rfl))
            go_ret
            rw [Pl.feedA_ok HT.out HFMX.out HERR.out]
            have hbz : Below w3.heap.size w3 w5 := (Below.refl _ _).grown HG5.out (Nat.le_refl _) (fun k hk => by cases hk)
            have hnew : ∀ g, (Value.slice a5 ([] ++ rest).length k5).ownBlock = some g → w3.heap.size ≤ g := fun g hg => by
              rcases HAT5.out with e | e
              · rw [e] at hg; cases hg
              · rw [e] at hg; injection hg with hg; omega
            refine ⟨rfl, _, ⟨_, F2, ⟨wvX, rvX, Value.nilIface, rowsX, HV5.out.store HG6.out H6.out rfl rfl HVX.out.2.2.2.2.2.2, HFX.out⟩, HO5.out.keep (fun g hg => HG6.out.block g (HO5.out.lt g hg).2 (fun e => by injection e with e; have := (HO5.out.lt g hg).1; omega)), fun g hg hf => ?_, fun g => Iff.rfl⟩, ?_⟩
            · have := hnew g hg
              have := (HPQX.out.lt g hf).2
              omega
            · refine HGX.out.trans (Mm.Chg.grown (Mm.gTrans (Mm.gBelow hbz) HG6.out) (fun g e => by injection e with e; exact .inl (by rw [HFX.out]; exact .inl e.symm)) (fun g hg => ?_))
              rcases hg with h | h
              · exact .inl (.inl h)
              · exact .inr (hnew g h)
          · obtain rfl : rest = T := HEQ.out (by omega)
            go_wp2_with fail
            go_ret
            rw [Pl.feedA_ok HT.out HFMX.out HERR.out]
            exact ⟨rfl, _, ⟨_, F2, HPQX.out, HOX.out, HDX.out, fun g => Iff.rfl⟩, HGX.out⟩
      · have hr0 : 0 < rest.length := by omega
        obtain ⟨a', c', e', hc', _, hby⟩ := HBR3.out
        injection e' with e1 e2 e3
        subst e1 e3
        obtain ⟨g0, o0, rfl, hm0⟩ := hby hr0
        have hkz : ((k : Int) == 0) = false := beq_eq_false_iff_ne.2 (by omega)
        have HM0 := Pl.hid hm0
        have HFM2 : Hid (Pl.feedM f st2 (rest.drop k) = Pl.feedM (T.length + 1) st T) := (HGO.out (by omega)).symm.trans HFM.out
        have hdl : (rest.drop k).length = rest.length - k := List.length_drop
        have HDL := Pl.hid hdl
        have HIB := Pl.hid (HBR.out.2 _ _ _ g0 o0 rfl rfl hr0)
        have HDR : Hid (∀ aa cc, rest.length - k ≤ cc → (rest.length - k = 0 ∨ aa = some ⟨g0, o0 + k, none⟩) → (aa = none → cc = 0) → Mm.Bs w3 (.slice aa (rest.drop k).length cc) (rest.drop k) ∧ Mm.InB (.slice aa (rest.drop k).length cc) (.slice a1 T.length c1)) := fun aa cc h1 h2 h3 => by
          refine ⟨⟨aa, cc, rfl, by rw [HDL.out]; exact h1, h3, fun hp => ?_⟩, fun a n c g o e1 e2 e3 => ?_⟩
          · rcases h2 with h2 | h2
            · rw [HDL.out] at hp; omega
            · exact ⟨g0, o0 + k, h2, HM0.out.drop k⟩
          · injection e1 with e1 e4 e5
            rcases h2 with h2 | h2
            · rw [HDL.out] at e4; omega
            · rw [← e1, h2] at e2
              injection e2 with e2
              injection e2 with e2
              subst e2
              exact HIB.out
        have hlf := HLF.out
        have REL : Hid (∀ aa cc, rest.length - k ≤ cc → (rest.length - k = 0 ∨ aa = some ⟨g0, o0 + k, none⟩) → (aa = none → cc = 0) → ∃ (rest' : List UInt8) (st1 : Pl.Pst) (F1 : Nat → Prop) (f U1 : Nat) (a2 : Option Addr) (c2 : Nat), Value.slice aa (rest.length - k) cc = .slice a2 rest'.length c2 ∧ Hid (Mm.Bs w3 (.slice a2 rest'.length c2) rest' ∧ Mm.InB (.slice a2 rest'.length c2) (.slice a1 T.length c1)) ∧ rest'.length ≤ T.length ∧
            Hid (Mm.PQ w3 p (.slice a1 T.length c1) st1 F1) ∧ Hid (Mm.Chg w2 F w3 F1) ∧ Hid (Mm.OwnB w3 (p + 1) (.slice a1 T.length c1) T) ∧ Hid (∀ g, (Value.slice a1 T.length c1).ownBlock = some g → ¬ F1 g) ∧
            Hid (Pl.feedM f st1 rest' = Pl.feedM (T.length + 1) st T) ∧ Hid (rest'.length < f) ∧ Hid (Pl.okP st1) ∧ Hid (Pl.bnd st1 U1) ∧ U1 + rest'.length ≤ U + T.length ∧ Hid (rest'.length = T.length → rest' = T)) := fun aa cc h1 h2 h3 =>
          ⟨rest.drop k, st2, F2, f, U1 + k, aa, cc, by rw [HDL.out], HDR.out aa cc h1 h2 h3, by rw [HDL.out]; omega, HQ2.out, HCX.out, HOX.out, HDX.out, HFM2.out, (by show _ < _; rw [HDL.out]; have := HLF.out; omega), HOK2.out, HB2.out, by rw [HDL.out]; omega, fun e => by rw [HDL.out] at e; omega⟩
        clear hdl hlf hby hm0 HDR
        rcases Decidable.em (c2 = k) with hck | hck
        · subst hck
          have hrk : rest.length = c2 := by omega
          go_wp2_with fail
          go_roundw
          case rel =>
            have hrel := REL.out (some ⟨g0, o0, none⟩) 0 (by omega) (.inl (by omega)) (fun e => rfl)
            rwa [show rest.length - c2 = 0 by omega] at hrel
          case measure => simp only [Mm.sliceN]; omega
        · go_wp2_with fail
          go_roundw
          case rel => exact REL.out _ _ (by omega) (.inr rfl) (fun e => by cases e)
          case measure => simp only [Mm.sliceN]; omega
end Go.Proofs.YtakldjdohgmeiaaDoor

namespace Go.Proofs.YtakldjdohgmeiaaDoor
open Go.RowKit
set_option maxRecDepth 20000

namespace Pl
def crlf : List UInt8 := [13, 10]
def bulkE (s : List UInt8) : List UInt8 := [36] ++ Lib.decDigits s.length ++ crlf ++ s ++ crlf
def reqE (ws : List (List UInt8)) : List UInt8 := [42] ++ Lib.decDigits ws.length ++ crlf ++ ws.flatMap bulkE
theorem dec_len (n : Nat) (h : n ≤ 9223372036854775807) : (Lib.decDigits n).length ≤ 21 := by
  have := itoa_le (n : Int) (by unfold In64; omega)
  rwa [itoa_pos (by omega)] at this
end Pl
namespace Mm
open Pl
def isU8 (o : Obj) : Prop := ∃ cs fr, o = .cells cs 5 fr
/-- what is no row of bytes stays -/
def NB (w w' : World) : Prop := ∀ (g : Nat) (o : Obj), w.heap[g]? = some o → ¬ isU8 o → w'.heap[g]? = some o
theorem NB.refl (w : World) : NB w w := fun _ _ h _ => h
theorem NB.trans {a b c : World} (h : NB a b) (k : NB b c) : NB a c := fun g o hg hn => k g o (h g o hg hn) hn
theorem NB.below {w w' : World} (h : Below w.heap.size w w') : NB w w' := fun g _ hg _ => (h.block g (Array.getElem?_eq_some_iff.1 hg).1).trans hg
theorem NB.own {w w' : World} {b : Nat} {v : Value} {l : List UInt8} (h : OwnB w b v l) (hg : w.grownBy w' v.ownBlock) : NB w w' := fun g o hgo hn => by
  refine (hg.block g (Array.getElem?_eq_some_iff.1 hgo).1 (fun e => ?_)).trans hgo
  rcases h.2 with ⟨rfl, _⟩ | ⟨g', cap, cur, rfl, _, hh, _⟩
  · cases e
  · injection e with e
    subst e
    rw [hgo] at hh
    injection hh with hh
    exact hn ⟨_, _, hh⟩
/-- 'append(b, c)' -/
theorem wp_app1N {ops : Array Oper} {rest : List Oper} {o : Oper} {a : Act} {Q : Exit → Act → World → Prop} (w : World) (hgd : o.guard = none) (x y : Operand)
    (ho : o.op = .call { callee := .builtin .append, args := #[x, y], argTypes := #[24, 24] })
    (base : Nat) (v : Value) (l : List UInt8) (c : UInt8) (hx : a.eval x = v) (hy : a.eval y = .slice (some ⟨w.heap.size, 0, none⟩) 1 1) (h : OwnB w base v l) (hl : l.length < 140737488355328) (hbase : base ≤ w.heap.size)
    (hK : ∀ v' w', OwnB w' base v' (l ++ [c]) → Below base w w' → NB w w' → wpList Tryd.prog ops Q rest (a.put o.dst v') w') :
    wpList Tryd.prog ops Q (o :: rest) a (w.alloc (.cells #[.int .u8 c.toNat] 5)) := by
  obtain ⟨i0, hi, hz0, hz1, hz2⟩ := info_parts Tryd.info_u8
  refine wpList_append_own _ hgd x y 24 ho base 5 i0 (.int .u8 0) 1 1 Tryd.underlying24 hi hz0 hz1 hz2 rfl (by decide) v l.length (bytesV l) hx (h.alloc _) ⟨w.heap.size, 0, none⟩ 1 1 [byteV c] hy rfl (cell_one_new _ _ _) ?_ ?_ ?_ ?_ ?_
  · intro u hu
    simp at hu
    subst hu
    rfl
  · unfold maxLen; omega
  · omega
  · simp; omega
  · intro v' w' h1 h2 _
    exact hK v' w' (by unfold OwnB; rw [bytesV_append, List.length_append]; exact h1) (((Below.refl _ _).alloc hbase _).grown h2 (by simp; omega) (fun k hk => (h.lt k hk).1))
      ((NB.below ((Below.refl _ _).alloc (Nat.le_refl _) _)).trans (NB.own (h.alloc _) h2))
/-- 'append(b, s...)', s a text -/
theorem wp_appSN {ops : Array Oper} {rest : List Oper} {o : Oper} {a : Act} {Q : Exit → Act → World → Prop} (w : World) (hgd : o.guard = none) (x y : Operand)
    (ho : o.op = .call { callee := .builtin .append, args := #[x, y], argTypes := #[24, 9] })
    (base : Nat) (v : Value) (l : List UInt8) (s : ByteArray) (hx : a.eval x = v) (hy : a.eval y = .string s) (h : OwnB w base v l) (hl : l.length + s.size ≤ 140737488355328) (hbase : base ≤ w.heap.size)
    (hK : ∀ v' w', OwnB w' base v' (l ++ L s) → Below base w w' → NB w w' → wpList Tryd.prog ops Q rest (a.put o.dst v') w') : wpList Tryd.prog ops Q (o :: rest) a w := by
  obtain ⟨i0, hi, hz0, hz1, hz2⟩ := info_parts Tryd.info_u8
  refine Lib.wpList_append_own_string _ hgd x y 24 9 ho base 5 i0 Tryd.underlying24 Tryd.underlying9 hi hz0 hz1 hz2 v l.length (bytesV l) hx h s hy (by unfold maxLen; omega) hl hbase ?_
  intro v' w' h1 h2 _
  refine hK v' w' ?_ ((Below.refl _ _).grown h2 hbase (fun k hk => (h.lt k hk).1)) (NB.own h h2)
  unfold OwnB
  rw [bytesV_append, List.length_append, L_length]
  exact h1
end Mm

theorem sign_4 (w : World) : Calls Tryd.prog 60 #[.int .i64 4] w fun e w' => e = .returned (.int .u8 36) ∧ w = w' := by
  go_enter Tryd.func60, Tryd.ntmps60
  go_wp2_with fail
  go_ret
  exact ⟨rfl, rfl⟩
theorem sign_6 (w : World) : Calls Tryd.prog 60 #[.int .i64 6] w fun e w' => e = .returned (.int .u8 42) ∧ w = w' := by
  go_enter Tryd.func60, Tryd.ntmps60
  go_wp2_with fail
  go_ret
  exact ⟨rfl, rfl⟩

set_option maxHeartbeats 4000000 in
theorem lay_bulk (s : ByteArray) (la : Option Addr) (lc base : Nat) (v : Value) (l : List UInt8) (W w : World) (hT : Mm.Tab W) (hW : Below W.heap.size W w) (hWb : W.heap.size ≤ base) (hb : base ≤ w.heap.size) (ho : Mm.OwnB w base v l) (hl : l.length ≤ 1099511627776) (hs : s.size ≤ 1099511627776) :
    Calls Tryd.prog 48 #[v, .agg #[.int .i64 4, .string s, .int .i64 0, .slice la 0 lc]] w fun e w' => ∃ v', e = .returned v' ∧ Mm.OwnB w' base v' (l ++ Pl.bulkE (Pl.L s)) ∧ Below base w w' ∧ Mm.NB w w' := by
  obtain ⟨p, hp⟩ : ∃ p, p = w.heap.size := ⟨_, rfl⟩
  obtain ⟨w0, hw0⟩ : ∃ w0, w0 = w.alloc (.cells #[.int .i64 4, .string s, .int .i64 0, .slice la 0 lc] 31) := ⟨_, rfl⟩
  have HP0 : Hid (w0.heap[p]? = some (.cells #[.int .i64 4, .string s, .int .i64 0, .slice la 0 lc] 31 (0, 0))) := by
    show _ = _
    rw [hw0, hp]
    exact heap_alloc_new w _
  have HB0 : Hid (Below w.heap.size w w0) := by rw [hw0]; exact (Below.refl _ _).alloc (Nat.le_refl _) _
  have HS0 : Hid (w0.heap.size = w.heap.size + 1) := by show _ = _; rw [hw0]; simp
  have hnu : ¬ Mm.isU8 (.cells #[.int .i64 4, .string s, .int .i64 0, .slice la 0 lc] 31 (0, 0)) := by
    rintro ⟨cs, fr, e⟩
    injection e with _ e _
    exact absurd e (by decide)
  have HK : Hid (∀ V, Mm.NB w0 V → V.cell? ⟨p, 0, none⟩ = some (.int .i64 4) ∧ V.cell? ⟨p, 1, none⟩ = some (.string s)) := fun V hV => by
    have h := hV p _ HP0.out hnu
    exact ⟨Mm.cellOf h rfl, Mm.cellOf h rfl⟩
  have HO0 : Hid (Mm.OwnB w0 base v l) := ho.keep fun g hg => HB0.out.block g (ho.lt g hg).2
  have HW := Pl.hid hW
  have HT := Pl.hid hT
  have HWb := Pl.hid hWb
  have hb0 : base ≤ w0.heap.size := by rw [HS0.out]; omega
  have HBB := Pl.hid hb
  obtain ⟨k0, k1⟩ := HK.out w0 (Mm.NB.refl _)
  have HW0eq := Pl.hid hw0
  have HPeq := Pl.hid hp
  clear hw0 hp hnu ho hW hT
  go_enter Tryd.func48, Tryd.ntmps48
  obtain ⟨TX, hTX⟩ : ∃ TX, TX = Pl.B (Lib.itoa (s.size : Int)) := ⟨_, rfl⟩
  have hTs : TX.size ≤ 21 := by rw [hTX, Pl.B_size]; exact Pl.itoa_le _ (by unfold Pl.In64; omega)
  have HTX : Hid (TX = Pl.B (Lib.decDigits s.size)) := by
    show _ = _
    rw [hTX, Pl.itoa_pos (by omega)]
    rfl
  have HTW := Pl.hid (fun w' (hw' : Mm.Tab w') => text_walk (s.size : Int) w' (by unfold Pl.In64; omega) hw')
  rw [← hTX] at HTW
  have hLs : (Pl.L s).length = s.size := Pl.L_length s
  have HLs := Pl.hid hLs
  clear hTX hLs
  have H13 : Hid ((TX ++ (⟨#[13, 10]⟩ : ByteArray)).size ≤ 23) := by
    show _ ≤ _
    rw [ByteArray.size_append, show (⟨#[13, 10]⟩ : ByteArray).size = 2 from rfl]
    omega
  go_wp2_with fail
  rw [← HW0eq.out, ← HPeq.out]
  refine (sign_4 w0).mono ?_
  rintro e w0' ⟨rfl, rfl⟩
  go_wp2_with (at_builtin; refine Mm.wp_app1N w0 rfl _ _ (by rfl) base v l 36 (by rfl) (by rfl) HO0.out (by omega) hb0 ?_; intro v1 w1 ho1 hb1 hn1; have HO1 := Pl.hid ho1; have HB1 := Pl.hid hb1; have HN1 := Pl.hid hn1; clear ho1 hb1 hn1 k0 k1; obtain ⟨k0, k1⟩ := HK.out w1 HN1.out)
  have HW1 : Hid (Below W.heap.size W w1) := HW.out.trans (((HB0.out.mono HBB.out).trans HB1.out).mono HWb.out)
  refine (HTW.out w1 (HT.out.on HW1.out)).mono ?_
  rintro e w2 ⟨rfl, hb2⟩
  have HN2 := Pl.hid (HN1.out.trans (Mm.NB.below hb2))
  have HB2 := Pl.hid (HB1.out.trans (hb2.mono (Nat.le_trans hb0 HB1.out.size)))
  have HO2 : Hid (Mm.OwnB w2 base v1 (l ++ [36])) := HO1.out.keep fun g hg => hb2.block g (HO1.out.lt g hg).2
  clear hb2 k0 k1
  obtain ⟨k0, k1⟩ := HK.out w2 HN2.out
  have hb2s : base ≤ w2.heap.size := Nat.le_trans hb0 HB2.out.size
  have HL3 : Hid ((l ++ [36] ++ Pl.L (TX ++ (⟨#[13, 10]⟩ : ByteArray))).length ≤ 1099511627900) := by
    show (l ++ [36] ++ Pl.L (TX ++ (⟨#[13, 10]⟩ : ByteArray))).length ≤ 1099511627900
    have h13 : (TX ++ (⟨#[13, 10]⟩ : ByteArray)).size ≤ 23 := H13.out
    rw [List.length_append, List.length_append, Pl.L_length]
    simp only [List.length_cons, List.length_nil]
    omega
  go_wp2_with (first
    | (at_builtin; refine Mm.wp_appSN w2 rfl _ _ (by rfl) base v1 (l ++ [36]) (TX ++ (⟨#[13, 10]⟩ : ByteArray)) (by rfl) (by rfl) HO2.out (by have := H13.out; rw [List.length_append]; simp only [List.length_cons, List.length_nil]; omega) hb2s ?_; intro v3 w3 ho3 hb3 hn3; have HO3 := Pl.hid ho3; have HB3 := Pl.hid (HB2.out.trans hb3); have HN3 := Pl.hid (HN2.out.trans hn3); clear ho3 hb3 hn3 k0 k1; obtain ⟨k0, k1⟩ := HK.out w3 HN3.out; have hb3s := Nat.le_trans hb0 HB3.out.size)
    | (at_builtin; refine Mm.wp_appSN w3 rfl _ _ (by rfl) base v3 _ s (by rfl) (by rfl) HO3.out (by have := HL3.out; omega) hb3s ?_; intro v4 w4 ho4 hb4 hn4; have HO4 := Pl.hid ho4; have HB4 := Pl.hid (HB3.out.trans hb4); have HN4 := Pl.hid (HN3.out.trans hn4); clear ho4 hb4 hn4; have hb4s := Nat.le_trans hb0 HB4.out.size)
    | (at_builtin; refine Mm.wp_appSN w4 rfl _ _ (by rfl) base v4 _ ⟨#[13, 10]⟩ (by rfl) (by rfl) HO4.out (by rw [List.length_append, HLs.out]; have := HL3.out; have : (⟨#[13, 10]⟩ : ByteArray).size = 2 := rfl; omega) hb4s ?_; intro v5 w5 ho5 hb5 hn5; have HO5 := Pl.hid ho5; have HB5 := Pl.hid (HB4.out.trans hb5); have HN5 := Pl.hid (HN4.out.trans hn5); clear ho5 hb5 hn5))
  go_ret
  refine ⟨v5, rfl, ?_, (HB0.out.mono HBB.out).trans HB5.out, (Mm.NB.below HB0.out).trans HN5.out⟩
  have h := HO5.out
  rw [HTX.out, show (⟨#[13, 10]⟩ : ByteArray) = Pl.B Pl.crlf from rfl, Pl.B_append, Pl.L_B, Pl.L_B] at h
  unfold Pl.bulkE
  rw [HLs.out]
  simpa using h
end Go.Proofs.YtakldjdohgmeiaaDoor

namespace Go.Proofs.YtakldjdohgmeiaaDoor
open Go.RowKit
set_option maxRecDepth 20000

namespace Pl
def bulkT (s : List UInt8) : RT := RT.mk 4 (B s) 0 []
def reqT (ws : List (List UInt8)) : RT := RT.mk 6 ⟨#[]⟩ 0 (ws.map bulkT)
theorem bulkE_len (s : List UInt8) (h : s.length ≤ 9223372036854775807) : (bulkE s).length ≤ s.length + 26 ∧ s.length + 5 ≤ (bulkE s).length := by
  have := dec_len s.length h
  unfold bulkE crlf
  simp only [List.length_append, List.length_cons, List.length_nil]
  omega
theorem flat_take (ws : List (List UInt8)) (i : Nat) (s : List UInt8) (h : ws[i]? = some s) : (ws.take (i + 1)).flatMap bulkE = (ws.take i).flatMap bulkE ++ bulkE s := by
  rw [List.take_add_one, h]
  simp
theorem flat_le (ws : List (List UInt8)) (i : Nat) : ((ws.take i).flatMap bulkE).length ≤ (ws.flatMap bulkE).length := by
  conv => rhs; rw [← List.take_append_drop i ws]
  rw [List.flatMap_append, List.length_append]
  omega
end Pl

set_option maxHeartbeats 8000000 in
theorem lay_arr (ws : List (List UInt8)) (c0 c1 c2 c3 : Value) (base : Nat) (v : Value) (l : List UInt8) (W w : World) (hT : Mm.Tab W) (hX : Mm.RepX W (Pl.reqT ws) [c0, c1, c2, c3]) (hW : Below W.heap.size W w) (hWb : W.heap.size ≤ base) (hb : base ≤ w.heap.size) (ho : Mm.OwnB w base v l)
    (hl : l.length + (Pl.reqE ws).length ≤ 1099511627776) (hn : ws.length ≤ 1099511627776) (hs : ∀ s ∈ ws, s.length ≤ 1099511627776) :
    Calls Tryd.prog 48 #[v, .agg #[c0, c1, c2, c3]] w fun e w' => ∃ v', e = .returned v' ∧ Mm.OwnB w' base v' (l ++ Pl.reqE ws) ∧ Below base w w' ∧ Mm.NB w w' := by
  obtain ⟨la, lc, hcs, hel⟩ := hX.open
  obtain ⟨rfl, rfl, rfl, rfl⟩ : c0 = .int .i64 6 ∧ c1 = .string ⟨#[]⟩ ∧ c2 = .int .i64 0 ∧ c3 = .slice la (ws.map Pl.bulkT).length lc := by
    injection hcs with h0 hcs
    injection hcs with h1 hcs
    injection hcs with h2 hcs
    injection hcs with h3 hcs
    exact ⟨h0, h1, h2, h3⟩
  obtain ⟨n, hnn⟩ : ∃ n, n = ws.length := ⟨_, rfl⟩
  have hml : (ws.map Pl.bulkT).length = n := by rw [List.length_map, hnn]
  have hel' : n = 0 ∨ ∃ b, la = some ⟨b, 0, none⟩ ∧ b < W.heap.size ∧ ∀ (i : Nat) (s : List UInt8), ws[i]? = some s → ∃ f0 f1 f2 f3, W.cell? ⟨b, i * 4, none⟩ = some f0 ∧ W.cell? ⟨b, i * 4 + 1, none⟩ = some f1 ∧ W.cell? ⟨b, i * 4 + 2, none⟩ = some f2 ∧ W.cell? ⟨b, i * 4 + 3, none⟩ = some f3 ∧ Mm.RepX W (Pl.bulkT s) [f0, f1, f2, f3] := by
    rcases hel with h0 | ⟨b, h1, h2, h3⟩
    · exact .inl (by omega)
    · refine .inr ⟨b, h1, h2, fun i s hs => ?_⟩
      have hi : i < (ws.map Pl.bulkT).length := by rw [List.length_map]; exact (List.getElem?_eq_some_iff.1 hs).1
      obtain ⟨f0, f1, f2, f3, g0, g1, g2, g3, hr⟩ := h3 i hi
      refine ⟨f0, f1, f2, f3, g0, g1, g2, g3, ?_⟩
      have e : (ws.map Pl.bulkT)[i]'hi = Pl.bulkT s := by
        have : (ws.map Pl.bulkT)[i]? = some (Pl.bulkT s) := by rw [List.getElem?_map, hs]; rfl
        rw [List.getElem?_eq_getElem hi] at this
        injection this
      rwa [e] at hr
  clear hel
  rw [hml]
  obtain ⟨p, hp⟩ : ∃ p, p = w.heap.size := ⟨_, rfl⟩
  obtain ⟨w0, hw0⟩ : ∃ w0, w0 = w.alloc (.cells #[.int .i64 6, .string ⟨#[]⟩, .int .i64 0, .slice la n lc] 31) := ⟨_, rfl⟩
  have HP0 : Hid (w0.heap[p]? = some (.cells #[.int .i64 6, .string ⟨#[]⟩, .int .i64 0, .slice la n lc] 31 (0, 0))) := by
    show _ = _
    rw [hw0, hp]
    exact heap_alloc_new w _
  have HB0 : Hid (Below w.heap.size w w0) := by rw [hw0]; exact (Below.refl _ _).alloc (Nat.le_refl _) _
  have HS0 : Hid (w0.heap.size = w.heap.size + 1) := by show _ = _; rw [hw0]; simp
  have hnu : ¬ Mm.isU8 (.cells #[.int .i64 6, .string ⟨#[]⟩, .int .i64 0, .slice la n lc] 31 (0, 0)) := by
    rintro ⟨cs, fr, e⟩
    injection e with _ e _
    exact absurd e (by decide)
  have HK : Hid (∀ V, Mm.NB w0 V → V.cell? ⟨p, 0, none⟩ = some (.int .i64 6) ∧ V.cell? ⟨p, 3, none⟩ = some (.slice la n lc)) := fun V hV => by
    have h := hV p _ HP0.out hnu
    exact ⟨Mm.cellOf h rfl, Mm.cellOf h rfl⟩
  have HO0 : Hid (Mm.OwnB w0 base v l) := ho.keep fun g hg => HB0.out.block g (ho.lt g hg).2
  have HW := Pl.hid hW
  have HT := Pl.hid hT
  have HWb := Pl.hid hWb
  have hb0 : base ≤ w0.heap.size := by rw [HS0.out]; omega
  have HBB := Pl.hid hb
  have HEL := Pl.hid hel'
  have HNN := Pl.hid hnn
  have HSS := Pl.hid hs
  obtain ⟨k0, k3⟩ := HK.out w0 (Mm.NB.refl _)
  have HW0eq := Pl.hid hw0
  have HPeq := Pl.hid hp
  obtain ⟨TX, hTX⟩ : ∃ TX, TX = Pl.B (Lib.itoa (n : Int)) := ⟨_, rfl⟩
  have hn' : n ≤ 1099511627776 := by omega
  have hTs : TX.size ≤ 21 := by rw [hTX, Pl.B_size]; exact Pl.itoa_le _ (by unfold Pl.In64; omega)
  have HTX : Hid (TX = Pl.B (Lib.decDigits n)) := by
    show _ = _
    rw [hTX, Pl.itoa_pos (by omega)]
    rfl
  have HTW := Pl.hid (fun w' (hw' : Mm.Tab w') => text_walk (n : Int) w' (by unfold Pl.In64; omega) hw')
  rw [← hTX] at HTW
  have hlL : l.length ≤ 1099511627776 := by omega
  have HLL := Pl.hid hl
  have H13 : Hid ((TX ++ (⟨#[13, 10]⟩ : ByteArray)).size ≤ 23) := by
    show _ ≤ _
    rw [ByteArray.size_append, show (⟨#[13, 10]⟩ : ByteArray).size = 2 from rfl]
    omega
  have HE0 : Hid (l ++ [42] ++ Pl.L (TX ++ (⟨#[13, 10]⟩ : ByteArray)) = l ++ ([42] ++ Lib.decDigits n ++ Pl.crlf)) := by
    show _ = _
    rw [HTX.out, show (⟨#[13, 10]⟩ : ByteArray) = Pl.B Pl.crlf from rfl, Pl.B_append, Pl.L_B]
    simp
  clear hTX hw0 hp hnu ho hW hT hX hcs hel' hml hnn hs hl
  go_enter Tryd.func48, Tryd.ntmps48
  go_wp2_with fail
  rw [← HW0eq.out, ← HPeq.out]
  refine (sign_6 w0).mono ?_
  rintro e w0' ⟨rfl, rfl⟩
  go_wp2_with (at_builtin; refine Mm.wp_app1N w0 rfl _ _ (by rfl) base v l 42 (by rfl) (by rfl) HO0.out (by omega) hb0 ?_; intro v1 w1 ho1 hb1 hn1; have HO1 := Pl.hid ho1; have HB1 := Pl.hid hb1; have HN1 := Pl.hid hn1; clear ho1 hb1 hn1 k0 k3; obtain ⟨k0, k3⟩ := HK.out w1 HN1.out)
  have HW1 : Hid (Below W.heap.size W w1) := HW.out.trans (((HB0.out.mono HBB.out).trans HB1.out).mono HWb.out)
  refine (HTW.out w1 (HT.out.on HW1.out)).mono ?_
  rintro e w2 ⟨rfl, hb2⟩
  have HN2 := Pl.hid (HN1.out.trans (Mm.NB.below hb2))
  have HB2 := Pl.hid (HB1.out.trans (hb2.mono (Nat.le_trans hb0 HB1.out.size)))
  have HO2 : Hid (Mm.OwnB w2 base v1 (l ++ [42])) := HO1.out.keep fun g hg => hb2.block g (HO1.out.lt g hg).2
  clear hb2 k0 k3
  obtain ⟨k0, k3⟩ := HK.out w2 HN2.out
  have hb2s : base ≤ w2.heap.size := Nat.le_trans hb0 HB2.out.size
  go_wp2_with (at_builtin; refine Mm.wp_appSN w2 rfl _ _ (by rfl) base v1 (l ++ [42]) (TX ++ (⟨#[13, 10]⟩ : ByteArray)) (by rfl) (by rfl) HO2.out (by have := H13.out; rw [List.length_append]; simp only [List.length_cons, List.length_nil]; omega) hb2s ?_; intro v3 w3 ho3 hb3 hn3; rw [HE0.out] at ho3; have HO3 := Pl.hid ho3; have HB3 := Pl.hid (HB2.out.trans hb3); have HN3 := Pl.hid (HN2.out.trans hn3); clear ho3 hb3 hn3 k0 k3; obtain ⟨k0, k3⟩ := HK.out w3 HN3.out)
  have HB03 : Hid (Below base w w3) := (HB0.out.mono HBB.out).trans HB3.out
  clear k0 k3
  go_loopw [50, 0] (fun iv bvv wr => ∃ (i : Nat) (bv : Value), iv = .int .i64 i ∧ bv = bvv ∧ i ≤ n ∧ Hid (Mm.OwnB wr base bv (l ++ ([42] ++ Lib.decDigits n ++ Pl.crlf) ++ (ws.take i).flatMap Pl.bulkE)) ∧ Hid (Below base w wr) ∧ Hid (Mm.NB w0 wr)) (fun iv _ _ => n - (intOf iv).toNat)
  case atStart => exact ⟨0, _, rfl, rfl, Nat.zero_le _, by show Mm.OwnB _ _ _ _; rw [List.take_zero, List.flatMap_nil, List.append_nil]; exact HO3.out, HB03.out, HN3.out⟩
  case round =>
    obtain ⟨i, bv, rfl, rfl, hi, HO, HB, HN⟩ := hrel
    rcases Nat.lt_or_ge i n with hlt | hge
    · rcases HEL.out with h0 | ⟨blk, rfl, hbl, hel⟩
      · omega
      obtain ⟨s, hs⟩ : ∃ s, ws[i]? = some s := ⟨_, List.getElem?_eq_getElem (by rw [← HNN.out]; exact hlt)⟩
      obtain ⟨f0, f1, f2, f3, g0, g1, g2, g3, hrep⟩ := hel i s hs
      have HWr : Hid (Below W.heap.size W wr) := HW.out.trans (HB.out.mono HWb.out)
      have e0 := (HWr.out.cell (p := ⟨blk, i * 4, none⟩) hbl).trans g0
      have e1 := (HWr.out.cell (p := ⟨blk, i * 4 + 1, none⟩) hbl).trans g1
      have e2 := (HWr.out.cell (p := ⟨blk, i * 4 + 2, none⟩) hbl).trans g2
      have e3 := (HWr.out.cell (p := ⟨blk, i * 4 + 3, none⟩) hbl).trans g3
      have hone := hrep.one
      obtain ⟨la', lc', hcs', _⟩ := hrep.open
      obtain ⟨rfl, rfl, rfl, rfl⟩ : f0 = .int .i64 4 ∧ f1 = .string (Pl.B s) ∧ f2 = .int .i64 0 ∧ f3 = .slice la' 0 lc' := by
        injection hcs' with h0 hcs'
        injection hcs' with h1 hcs'
        injection hcs' with h2 hcs'
        injection hcs' with h3 hcs'
        exact ⟨h0, h1, h2, h3⟩
      have HONE := Pl.hid hone
      have HS := Pl.hid hs
      have hsl : s.length ≤ 1099511627776 := HSS.out s (List.mem_of_getElem? hs)
      clear g0 g1 g2 g3 hrep hcs' hel hs hone
      obtain ⟨q, hq⟩ : ∃ q, q = wr.heap.size := ⟨_, rfl⟩
      have HQ := Pl.hid hq
      clear hq
      go_wp2_with (refine Mm.wp_store4 _ rfl _ _ rfl wr.heap.size _ _ _ _ _ _ (heap_alloc_new wr _) rfl rfl rfl HONE.out ?_; intro w4 hw4 hs4 hg4; have HW4 := Pl.hid hw4; have HG4 := Pl.hid hg4; have HS4 := Pl.hid hs4; clear hw4 hs4 hg4; have q0 := Mm.cellOf (i := 0) (v := .int .i64 4) HW4.out rfl; have q1 := Mm.cellOf (i := 1) (v := .string (Pl.B s)) HW4.out rfl; have q2 := Mm.cellOf (i := 2) (v := .int .i64 0) HW4.out rfl; have q3 := Mm.cellOf (i := 3) (v := .slice la' 0 lc') HW4.out rfl; clear e0 e1 e2 e3)
      have HN4 : Hid (Mm.NB w0 w4) := by
        refine HN.out.trans fun g o hg _ => ?_
        have hgl := (Array.getElem?_eq_some_iff.1 hg).1
        exact (HG4.out.block g (by simp; omega) (fun e => by injection e with e; omega)).trans ((Below.heap_alloc _ _ _ hgl).trans hg)
      have HB4 : Hid (Below base w w4) := by
        have hz : base ≤ wr.heap.size := Nat.le_trans HBB.out HB.out.size
        refine (HB.out.alloc hz (.cells #[.int .i64 0, .string ⟨#[]⟩, .int .i64 0, .slice none 0 0] 31)).grown HG4.out (by simp; omega) (fun k hk => by injection hk with hk; omega)
      have HO4 : Hid (Mm.OwnB w4 base bv (l ++ ([42] ++ Lib.decDigits n ++ Pl.crlf) ++ (ws.take i).flatMap Pl.bulkE)) := (HO.out.keep (w' := wr.alloc (.cells #[.int .i64 0, .string ⟨#[]⟩, .int .i64 0, .slice none 0 0] 31)) (fun g hg => Below.heap_alloc _ _ _ (HO.out.lt g hg).2)).keep fun g hg => HG4.out.block g (by have := (HO.out.lt g hg).2; simp; omega) (fun e => by injection e with e; have := (HO.out.lt g hg).2; omega)
      have hb4 : base ≤ w4.heap.size := Nat.le_trans HBB.out HB4.out.size
      have hlen4 : (l ++ ([42] ++ Lib.decDigits n ++ Pl.crlf) ++ (ws.take i).flatMap Pl.bulkE).length ≤ 1099511627776 := by
        have h1 := Pl.flat_le ws i
        have h2 := HLL.out
        rw [HNN.out]
        unfold Pl.reqE at h2
        simp only [List.length_append] at h2 ⊢
        omega
      refine (lay_bulk (Pl.B s) la' lc' base bv _ W w4 HT.out (HW.out.trans (HB4.out.mono HWb.out)) HWb.out hb4 HO4.out hlen4 (by rw [Pl.B_size]; exact hsl)).mono ?_
      rintro e w5 ⟨v5, rfl, ho5, hb5, hn5⟩
      have HO5 : Hid (Mm.OwnB w5 base v5 (l ++ ([42] ++ Lib.decDigits n ++ Pl.crlf) ++ (ws.take (i + 1)).flatMap Pl.bulkE)) := by
        rw [Pl.flat_take ws i s HS.out, ← List.append_assoc]
        rw [Pl.L_B] at ho5
        exact ho5
      have HB5 := Pl.hid (HB4.out.trans hb5)
      have HN5 := Pl.hid (HN4.out.trans hn5)
      clear ho5 hb5 hn5 q0 q1 q2 q3
      go_wp2_with fail
      go_roundw
      case rel => exact ⟨i + 1, v5, by go_num, rfl, by omega, HO5, HB5, HN5⟩
      case measure => simp [intOf]; omega
    · obtain rfl : i = n := by omega
      go_wp2_with fail
      go_ret
      refine ⟨_, rfl, ?_, HB.out, (Mm.NB.below HB0.out).trans HN.out⟩
      have h := HO.out
      rw [HNN.out, List.take_length] at h
      unfold Pl.reqE
      simpa using h
end Go.Proofs.YtakldjdohgmeiaaDoor

namespace Go.Proofs.YtakldjdohgmeiaaDoor
open Go.RowKit
set_option maxRecDepth 20000

namespace Mm
open Pl
/-- a row of texts that may be read -/
def RowT (w : World) (v : Value) (l : List (List UInt8)) : Prop := ∃ a c, v = .slice a l.length c ∧ l.length ≤ c ∧ (0 < l.length → ∃ g o, a = some ⟨g, o, none⟩ ∧ ∀ i s, l[i]? = some s → w.cell? ⟨g, o + i, none⟩ = some (.string (B s)))
theorem OwnS.rowT {w : World} {b : Nat} {v : Value} {l : List (List UInt8)} (h : OwnS w b v l) : RowT w v l := by
  obtain ⟨a, c, rfl, h0 | ⟨g, rfl, _, hg, hle⟩⟩ := h.val
  · exact ⟨_, _, rfl, by omega, fun h => by omega⟩
  · refine ⟨_, _, rfl, hle, fun _ => ⟨g, 0, rfl, fun i s hs => ?_⟩⟩
    have := h.cells (g := g) rfl i (.string (B s)) (by simp [strsV, hs])
    have e : (⟨g, 0, none⟩ : Addr).add i = ⟨g, i, none⟩ := by unfold Addr.add; split <;> simp_all
    rw [e] at this
    rw [Nat.zero_add]
    exact this
theorem RowT.below {w w' : World} {v : Value} {l : List (List UInt8)} (h : RowT w v l) (hb : Below w.heap.size w w') : RowT w' v l := by
  obtain ⟨a, c, h1, h2, h3⟩ := h
  refine ⟨a, c, h1, h2, fun hp => ?_⟩
  obtain ⟨g, o, e, hc⟩ := h3 hp
  exact ⟨g, o, e, fun i s hs => (hb.cell (p := ⟨g, o + i, none⟩) (World.block_lt_of_cell? _ _ (hc i s hs))).trans (hc i s hs)⟩
/-- a parser that is only asked: what is ready and was not told yet, and how many bytes are held -/
def PN (w : World) (p : Nat) (rest : List (List (List UInt8))) (st : Pst) (nb : Nat) : Prop :=
  ∃ wv ev ba bc a c, w.heap[p]? = some (.cells (cellsP (.slice ba nb bc) wv (.slice a rest.length c) ev st) 90 (0, 0)) ∧ rest.length ≤ c ∧ ErrV st.err ev ∧
    (0 < rest.length → ∃ g o, a = some ⟨g, o, none⟩ ∧ g ≠ p ∧ ∀ i l, rest[i]? = some l → ∃ v, w.cell? ⟨g, o + i, none⟩ = some v ∧ OwnS w (p + 1) v l)
theorem PB.asked {w : World} {p : Nat} {buf : List UInt8} {st : Pst} {G : Nat → Prop} (h : PB w p buf st G) : PN w p st.ready st buf.length := by
  obtain ⟨bv, F, ⟨wv, rv, ev, rows, hv, _⟩, ho, _, _⟩ := h
  obtain ⟨ba, bc, rfl, _⟩ := ho.val
  have hlen := hv.2.2.2.1.1
  rcases hv.2.2.1.2 with ⟨e, h0⟩ | ⟨g, cap, cur, e, hg, hh, hle, _⟩
  · have hz : st.ready.length = 0 := by omega
    refine ⟨wv, ev, ba, bc, none, 0, ?_, by omega, hv.2.2.2.2.2.2, fun h => by omega⟩
    rw [hz, ← e]
    exact hv.1
  · refine ⟨wv, ev, ba, bc, some ⟨g, 0, none⟩, cap, ?_, by omega, hv.2.2.2.2.2.2, fun hp => ⟨g, 0, rfl, by omega, fun i l hl => ?_⟩⟩
    · rw [← hlen, ← e]
      exact hv.1
    · obtain ⟨v, e1, e2⟩ := hv.2.2.2.1.2 i l hl
      refine ⟨v, ?_, e2⟩
      have := hv.2.2.1.cells (g := g) (by rw [e]; rfl) i v e1
      have e : (⟨g, 0, none⟩ : Addr).add i = ⟨g, i, none⟩ := by unfold Addr.add; split <;> simp_all
      rw [e] at this
      rw [Nat.zero_add]
      exact this
theorem PN.below {w w' : World} {p : Nat} {rest : List (List (List UInt8))} {st : Pst} {nb : Nat} (h : PN w p rest st nb) (hb : Below w.heap.size w w') : PN w' p rest st nb := by
  obtain ⟨wv, ev, ba, bc, a, c, h1, h2, h3, h4⟩ := h
  refine ⟨wv, ev, ba, bc, a, c, (hb.block p (Array.getElem?_eq_some_iff.1 h1).1).trans h1, h2, h3, fun hp => ?_⟩
  obtain ⟨g, o, e, hne, hc⟩ := h4 hp
  refine ⟨g, o, e, hne, fun i l hl => ?_⟩
  obtain ⟨v, e1, e2⟩ := hc i l hl
  exact ⟨v, (hb.cell (p := ⟨g, o + i, none⟩) (World.block_lt_of_cell? _ _ e1)).trans e1, e2.below hb⟩
end Mm

theorem pnew_walk (w : World) : Calls Tryd.prog 40 #[] w fun e w' => e = .returned (.pointer (some ⟨w.heap.size, 0, none⟩)) ∧ Mm.PB w' w.heap.size [] Pl.fresh (fun g => g = w.heap.size) ∧ w'.heap.size = w.heap.size + 1 ∧ Below w.heap.size w w' := by
  go_enter Tryd.func40, Tryd.ntmps40
  go_wp2_with fail
  go_ret
  refine ⟨rfl, ⟨.slice none 0 0, Mm.foot w.heap.size (.slice none 0 0) (.slice none 0 0) [], ⟨_, _, .nilIface, [], ⟨heap_alloc_new w _, Mm.ownS_nil _ _, World.ownsRow_nil _ _ _ _, ⟨rfl, fun i l h => by simp [Pl.fresh] at h⟩, fun g h => (by cases h), fun v h => (by cases h), .inr ⟨rfl, rfl⟩⟩, rfl⟩, Mm.ownB_nil _ _, fun g h => (by cases h), fun g => ?_⟩, by simp, (Below.refl _ _).alloc (Nat.le_refl _) _⟩
  constructor
  · intro e
    exact .inl (.inl e)
  · rintro ((e | e | e | ⟨v, hv, _⟩) | e)
    · exact e
    · cases e
    · cases e
    · cases hv
    · cases e

set_option maxHeartbeats 4000000 in
theorem pnext_none (p : Nat) (st : Pl.Pst) (nb : Nat) (w : World) (h : Mm.PN w p [] st nb) :
    Calls Tryd.prog 42 #[.pointer (some ⟨p, 0, none⟩)] w fun e w' => e = .returned (.tuple #[.slice none 0 0, .bool false]) ∧ w = w' := by
  obtain ⟨wv, ev, ba, bc, a, c, h1, h2, h3, h4⟩ := h
  have c6 := Mm.cellOf (i := 6) (v := .slice a 0 c) h1 rfl
  clear h1 h2 h3 h4
  go_enter Tryd.func42, Tryd.ntmps42
  go_wp2_with fail
  go_ret2
  exact ⟨rfl, rfl⟩

set_option maxHeartbeats 4000000 in
theorem pnext_some (p : Nat) (x : List (List UInt8)) (rest : List (List (List UInt8))) (st : Pl.Pst) (nb : Nat) (w : World) (h : Mm.PN w p (x :: rest) st nb) :
    Calls Tryd.prog 42 #[.pointer (some ⟨p, 0, none⟩)] w fun e w' => (∃ v, e = .returned (.tuple #[v, .bool true]) ∧ Mm.OwnS w' (p + 1) v x) ∧ Mm.PN w' p rest st nb ∧ w.grownBy w' (some p) := by
  obtain ⟨wv, ev, ba, bc, a, c, h1, h2, h3, h4⟩ := h
  obtain ⟨g, o, rfl, hne, hc⟩ := h4 (by simp)
  obtain ⟨v, e0, ho⟩ := hc 0 x rfl
  rw [Nat.add_zero] at e0
  obtain ⟨va, vc, rfl, _⟩ := ho.val
  have hl : (x :: rest).length = rest.length + 1 := rfl
  rw [hl] at h1 h2
  have c6 := Mm.cellOf (i := 6) (v := .slice (some ⟨g, o, none⟩) (rest.length + 1) c) h1 rfl
  have H1 := Pl.hid h1
  have HO := Pl.hid ho
  have HC := Pl.hid hc
  have H3 := Pl.hid h3
  have HNE := Pl.hid hne
  have hpl : p < w.heap.size := (Array.getElem?_eq_some_iff.1 h1).1
  have HPL := Pl.hid hpl
  have hcz : ¬ c = 0 := by omega
  clear h1 h3 h4 hc hl ho hne
  generalize hn : rest.length = n at c6 h2 H1
  have HN := Pl.hid hn
  clear hn
  have HFIN : Hid (∀ w6 a' c', w.grownBy w6 (some p) → w6.heap[p]? = some (.cells (Mm.cellsP (.slice ba nb bc) wv (.slice a' n c') ev st) 90 (0, 0)) → n ≤ c' → (0 < n → a' = some ⟨g, o + 1, none⟩) → Mm.PN w6 p rest st nb ∧ Mm.OwnS w6 (p + 1) (.slice va x.length vc) x) := fun w6 a' c' hg hh hnc ha => by
    have keep : ∀ v l, Mm.OwnS w (p + 1) v l → Mm.OwnS w6 (p + 1) v l := fun v l ho => ho.keep fun g0 hg0 => hg.block g0 (ho.lt g0 hg0).2 (fun e => by injection e with e; have := (ho.lt g0 hg0).1; omega)
    refine ⟨⟨wv, ev, ba, bc, a', c', by rw [HN.out]; exact hh, by rw [HN.out]; exact hnc, H3.out, fun hp => ⟨g, o + 1, ha (by rw [← HN.out]; exact hp), HNE.out, fun i l hl => ?_⟩⟩, keep _ _ HO.out⟩
    obtain ⟨v, e1, e2⟩ := HC.out (i + 1) l (by simpa using hl)
    refine ⟨v, ?_, keep _ _ e2⟩
    rw [show o + 1 + i = o + (i + 1) by omega]
    exact hg.cell e1 (fun e => by injection e with e; exact HNE.out e)
  go_enter Tryd.func42, Tryd.ntmps42
  rcases Decidable.em (c = 1) with hc1 | hc1
  · subst hc1
    obtain rfl : n = 0 := by omega
    go_wp2_with (first | (refine Mm.wp_storeF _ rfl 65 _ _ (by rfl) (by kernel_rfl) p 6 90 _ _ H1.out (by rfl) (by rfl) (by simp [Mm.cellsP]) rfl rfl ?_; intro w6 h6 hz6 hg6; have H6 := Pl.hid h6; have HG6 := Pl.hid hg6; clear h6 hz6 hg6 c6 e0))
    go_ret2
    obtain ⟨k1, k2⟩ := HFIN.out w6 _ _ HG6.out H6.out (Nat.zero_le _) (fun h => by omega)
    exact ⟨⟨_, rfl, k2⟩, k1, HG6.out⟩
  · go_wp2_with (first | (refine Mm.wp_storeF _ rfl 65 _ _ (by rfl) (by kernel_rfl) p 6 90 _ _ H1.out (by rfl) (by rfl) (by simp [Mm.cellsP]) rfl rfl ?_; intro w6 h6 hz6 hg6; have H6 := Pl.hid h6; have HG6 := Pl.hid hg6; clear h6 hz6 hg6 c6 e0))
    go_ret2
    obtain ⟨k1, k2⟩ := HFIN.out w6 _ _ HG6.out H6.out (by omega) (fun _ => rfl)
    exact ⟨⟨_, rfl, k2⟩, k1, HG6.out⟩

theorem perr_walk (p : Nat) (rest : List (List (List UInt8))) (st : Pl.Pst) (nb : Nat) (w : World) (h : Mm.PN w p rest st nb) :
    Calls Tryd.prog 44 #[.pointer (some ⟨p, 0, none⟩)] w fun e w' => (∃ ev, e = .returned ev ∧ Mm.ErrV st.err ev) ∧ w = w' := by
  obtain ⟨wv, ev, ba, bc, a, c, h1, h2, h3, h4⟩ := h
  have c7 := Mm.cellOf (i := 7) (v := ev) h1 rfl
  have H3 := Pl.hid h3
  clear h1 h2 h3 h4
  go_enter Tryd.func44, Tryd.ntmps44
  go_wp2_with fail
  go_ret
  exact ⟨⟨ev, rfl, H3.out⟩, rfl⟩

namespace Mm
open Pl
theorem bytes_alloc (w : World) (l : List UInt8) (fr : Nat × Nat) : BytesAt (w.alloc (.cells (bytesV l).toArray 5 fr)) w.heap.size 0 l := fun j hj => by
  rw [Nat.zero_add, World.cell?_alloc_mark]
  simp only [List.getElem?_toArray, bytesV, List.getElem?_map, List.getElem?_eq_getElem hj, Option.map_some, Option.some.injEq]
  unfold byteV at_
  rw [List.getD_eq_getElem?_getD, List.getElem?_eq_getElem hj]
  rfl
theorem bs_alloc (w : World) (l : List UInt8) (fr : Nat × Nat) (n : Nat) (hn : n = l.length) : Bs (w.alloc (.cells (bytesV l).toArray 5 fr)) (.slice (some ⟨w.heap.size, 0, none⟩) n n) l := by
  subst hn
  exact ⟨_, _, rfl, Nat.le_refl _, fun e => (by cases e), fun _ => ⟨_, _, rfl, bytes_alloc w l fr⟩⟩
theorem rowT_alloc (w : World) (l : List (List UInt8)) (n : Nat) (hn : n = l.length) : RowT (w.alloc (.cells (strsV l).toArray 9)) (.slice (some ⟨w.heap.size, 0, none⟩) n n) l := by
  subst hn
  refine ⟨_, _, rfl, Nat.le_refl _, fun _ => ⟨_, _, rfl, fun i s hs => ?_⟩⟩
  rw [Nat.zero_add, World.cell?_alloc_mark]
  simp [strsV, hs]
theorem PB.below {w w' : World} {p : Nat} {buf : List UInt8} {st : Pst} {G : Nat → Prop} (h : PB w p buf st G) (hb : Below w.heap.size w w') : PB w' p buf st G := by
  obtain ⟨bv, F, h1, h2, h3, h4⟩ := h
  exact ⟨bv, F, h1.below hb, h2.keep (fun g hg => hb.block g (h2.lt g hg).2), h3, h4⟩
theorem Chg.under0 {B : Nat} {W w w' : World} {F F' : Nat → Prop} (h : Chg w F w' F') (hB : B ≤ W.heap.size) (hW : Below B W w) (hF : ∀ g, F g → B ≤ g) : Below B W w' :=
  ⟨h.os.trans hW.os, h.tape.trans hW.tape, h.output.trans hW.output, Nat.le_trans hW.size h.size, fun g hg => (h.block g (Nat.lt_of_lt_of_le hg (Nat.le_trans hB hW.size)) (fun hf => by have := hF g hf; omega)).trans (hW.block g hg)⟩
theorem OwnS.st {w w' : World} {p : Nat} {v : Value} {l : List (List UInt8)} (h : OwnS w (p + 1) v l) (hg : w.grownBy w' (some p)) : OwnS w' (p + 1) v l :=
  h.keep fun g0 hg0 => hg.block g0 (h.lt g0 hg0).2 (fun e => by injection e with e; have := (h.lt g0 hg0).1; omega)
end Mm
end Go.Proofs.YtakldjdohgmeiaaDoor

namespace Go.Proofs.YtakldjdohgmeiaaDoor
open Go.RowKit
set_option maxRecDepth 20000

theorem Mm.OwnB.base0 {w : World} {b b' : Nat} {v : Value} {l : List UInt8} (h : Mm.OwnB w b v l) (hb : b' ≤ b) : Mm.OwnB w b' v l := by
  obtain ⟨hl, h0 | ⟨g, cap, cur, hv, hg, r⟩⟩ := h
  · exact ⟨hl, .inl h0⟩
  · exact ⟨hl, .inr ⟨g, cap, cur, hv, Nat.le_trans hb hg, r⟩⟩
theorem bulk_walk (s : ByteArray) (w : World) : Calls Tryd.prog 31 #[.string s] w fun e w' => e = .returned (.agg #[.int .i64 4, .string s, .int .i64 0, .slice none 0 0]) ∧ Below w.heap.size w w' := by
  go_enter Tryd.func31, Tryd.ntmps31
  go_wp2_with (refine Mm.wp_store4 _ rfl _ _ rfl w.heap.size _ _ _ _ _ _ (heap_alloc_new w _) rfl rfl rfl (by intro u hu; simp at hu; rcases hu with rfl | rfl | rfl | rfl <;> rfl) ?_; intro w4 hw4 hs4 hg4; have HW4 := Pl.hid hw4; have HG4 := Pl.hid hg4; clear hw4 hs4 hg4)
  (try simp only [Exit.inBlock, Exit.then])
  refine bodyPost_ret (Mm.res_cell rfl _ w4 w.heap.size _ _ _ _ _ _ rfl HW4.out) rfl ?_
  exact ⟨rfl, ((Below.refl _ _).alloc (Nat.le_refl _) _).grown HG4.out (by simp) (fun k hk => by injection hk with hk; omega)⟩

set_option maxHeartbeats 8000000 in
theorem bulks_walk (v : Value) (ws : List (List UInt8)) (w : World) (hv : Mm.RowT w v ws) (hn : ws.length ≤ 1048576) (hs : ∀ s ∈ ws, s.length ≤ 1048576) :
    Calls Tryd.prog 13 #[v] w fun e w' => ∃ c0 c1 c2 c3, e = .returned (.agg #[c0, c1, c2, c3]) ∧ Mm.RepX w' (Pl.reqT ws) [c0, c1, c2, c3] ∧ Below w.heap.size w w' := by
  obtain ⟨a, c, rfl, hc, hcell⟩ := hv
  obtain ⟨n, hnn⟩ : ∃ n, n = ws.length := ⟨_, rfl⟩
  rw [← hnn] at hc hcell hn ⊢
  have HNN := Pl.hid hnn
  have HCELL := Pl.hid hcell
  have HSS := Pl.hid hs
  clear hcell hnn hs
  go_enter Tryd.func13, Tryd.ntmps13
  go_wp2_with fail
  generalize hw3 : World.alloc _ _ = w3
  obtain ⟨p, hp⟩ : ∃ p, p = w.heap.size + 1 := ⟨_, rfl⟩
  obtain ⟨r, hr⟩ : ∃ r, r = w.heap.size := ⟨_, rfl⟩
  have HP3 : Hid (w3.heap[p]? = some (.cells #[.int .i64 6, .string ⟨#[]⟩, .int .i64 0, .slice none 0 0] 31 (0, 0))) := by
    show _ = _
    rw [← hw3, hp]
    have := heap_alloc_new (w.alloc (.cells #[.int .i64 0, .string ⟨#[]⟩, .int .i64 0, .slice none 0 0] 31)) (.cells #[.int .i64 6, .string ⟨#[]⟩, .int .i64 0, .slice none 0 0] 31)
    simpa using this
  have HR3 : Hid (w3.heap[r]? = some (.cells #[.int .i64 0, .string ⟨#[]⟩, .int .i64 0, .slice none 0 0] 31 (0, 0))) := by
    show _ = _
    rw [← hw3, hr, Below.heap_alloc _ _ _ (by simp)]
    exact heap_alloc_new w _
  have HB3 : Hid (Below w.heap.size w w3) := by rw [← hw3]; exact ((Below.refl _ _).alloc (Nat.le_refl _) _).alloc (by simp) _
  have HS3 : Hid (w3.heap.size = w.heap.size + 2) := by show _ = _; rw [← hw3]; simp
  have HPR : Hid (p = w.heap.size + 1 ∧ r = w.heap.size) := ⟨hp, hr⟩
  obtain ⟨lo, hlo⟩ : ∃ lo, lo = w3.heap.size := ⟨_, rfl⟩
  have HLO : Hid (lo = w.heap.size + 2 ∧ lo = w3.heap.size) := ⟨hlo.trans HS3.out, hlo⟩
  rw [← hp, ← hr]
  clear hw3 hp hr hlo
  go_loopw [9] (fun iv wr => ∃ (i : Nat) (lv : Value), iv = .int .i64 i ∧ i ≤ n ∧ Hid (wr.heap[p]? = some (.cells #[.int .i64 6, .string ⟨#[]⟩, .int .i64 0, lv] 31 (0, 0))) ∧
      Hid (wr.heap[r]? = some (.cells #[.int .i64 0, .string ⟨#[]⟩, .int .i64 0, .slice none 0 0] 31 (0, 0))) ∧ Hid (Mm.OwnL wr lo lv ((ws.take i).map Pl.bulkT)) ∧ Hid (Below w.heap.size w wr ∧ lo ≤ wr.heap.size)) (fun iv _ => n - (intOf iv).toNat)
  case atStart => exact ⟨0, .slice none 0 0, rfl, Nat.zero_le _, HP3, HR3, Mm.OwnL.nil w3 lo, HB3.out, Nat.le_of_eq HLO.out.2⟩
  case round =>
    obtain ⟨i, lv, rfl, hi, HP, HR, HO, HBr⟩ := hrel
    rcases Nat.lt_or_ge i n with hlt | hge
    · obtain ⟨g, o, rfl, hm⟩ := HCELL.out (by omega)
      obtain ⟨s, hs⟩ : ∃ s, ws[i]? = some s := ⟨_, List.getElem?_eq_getElem (by rw [← HNN.out]; exact hlt)⟩
      have hc0 := hm i s hs
      have hcs := (HBr.out.1.cell (p := ⟨g, o + i, none⟩) (World.block_lt_of_cell? _ _ hc0)).trans hc0
      have HS := Pl.hid hs
      have hpl : p < wr.heap.size := (Array.getElem?_eq_some_iff.1 HP.out).1
      have HPLT := Pl.hid hpl
      have HLN : Hid (((ws.take i).map Pl.bulkT).length < 1073741824) := by show _ < _; rw [List.length_map, List.length_take]; omega
      have p3 : wr.cell? ⟨p, 3, none⟩ = some lv := Mm.cellOf HP.out rfl
      have ST5 : Hid (∀ (w5 : World), Below wr.heap.size wr w5 → w5.cell? ⟨p, 3, none⟩ = some lv ∧ (w5.alloc (.cells #[.int .i64 4, .string (Pl.B s), .int .i64 0, .slice none 0 0] 31)).cell? ⟨p, 3, none⟩ = some lv ∧
          Hid (Mm.OwnT w5 wr.heap.size (Pl.bulkT s) [.int .i64 4, .string (Pl.B s), .int .i64 0, .slice none 0 0]) ∧ Hid (Below wr.heap.size wr w5) ∧ Hid (w5.heap[p]? = some (.cells #[.int .i64 6, .string ⟨#[]⟩, .int .i64 0, lv] 31 (0, 0))) ∧ Hid (w5.heap[r]? = some (.cells #[.int .i64 0, .string ⟨#[]⟩, .int .i64 0, .slice none 0 0] 31 (0, 0)))) := fun w5 hb => by
        have h5 := (hb.block p HPLT.out).trans HP.out
        have c5 : w5.cell? ⟨p, 3, none⟩ = some lv := Mm.cellOf h5 rfl
        exact ⟨c5, (World.cell?_alloc_old _ _ _ (Nat.ne_of_lt (Nat.lt_of_lt_of_le HPLT.out hb.size))).trans c5, (Mm.OwnL.nil w5 wr.heap.size).rep 4 (Pl.B s) 0, hb, h5, (hb.block r (Array.getElem?_eq_some_iff.1 HR.out).1).trans HR.out⟩
      have ST6 : Hid (∀ (w5 w6 : World), w5.heap[p]? = some (.cells #[.int .i64 6, .string ⟨#[]⟩, .int .i64 0, lv] 31 (0, 0)) → Below lo w5 w6 → w6.cell? ⟨p, 3, none⟩ = some lv ∧ w6.frozen? ⟨p, 3, none⟩ = false) := fun w5 w6 h5 hb => by
        have h6 := (hb.block p (by have := HLO.out; have := HPR.out; omega)).trans h5
        exact ⟨Mm.cellOf h6 rfl, Mm.frozenOf h6⟩
      clear hm hc0 hs
      go_wp2_with fail
      clear hcs
      go_region_law (first
        | (go_simp; go_at_call 31; refine (bulk_walk (Pl.B s) _).mono ?_; rintro e w5 ⟨rfl, hb5⟩; obtain ⟨p5, p5a, HT5, HB5, HP5, HR5⟩ := ST5.out w5 (by first | exact hb5 | exact Mm.undrew hb5); clear hb5)
        | (refine Mm.step_appR _ (by rfl) _ _ (by rfl) wr w5 lo lv ((ws.take i).map Pl.bulkT) (by rfl) HO.out (Pl.bulkT s) [.int .i64 4, .string (Pl.B s), .int .i64 0, .slice none 0 0] HT5.out (by rfl) (by rfl) HB5.out HLN.out HBr.out.2 ?_; intro v6 w6 ho6 hb6 _; obtain ⟨a6, k6, rfl⟩ := ho6.val; obtain ⟨p6, pf6⟩ := ST6.out w5 w6 HP5.out hb6; have HO6 := Pl.hid ho6; have HB6 := Pl.hid hb6; clear ho6 hb6))
      all_goals
        have HV : Hid (((ws.take i).map Pl.bulkT ++ [Pl.bulkT s]).length = min i ws.length + 1) := by show _ = _; simp
        have HVT : Hid ((ws.take i).map Pl.bulkT ++ [Pl.bulkT s] = (ws.take (i + 1)).map Pl.bulkT) := by show _ = _; rw [List.take_add_one, HS.out]; simp
        have HO6' : Hid (Mm.OwnL w6 lo (.slice a6 (min i ws.length + 1) k6) ((ws.take (i + 1)).map Pl.bulkT)) := by
          have := HO6.out
          rw [HV.out, HVT.out] at this
          exact this
        have HP7 := Pl.hid (Mm.heapSet ((HB6.out.block p (by have := HLO.out; have := HPR.out; omega)).trans HP5.out) 3 (.slice a6 (min i ws.length + 1) k6))
        have HG7 := Pl.hid (Mm.grownSet w6 p 3 (.slice a6 (min i ws.length + 1) k6))
        generalize World.setCell w6 _ _ = w7 at HP7 HG7 ⊢
        clear p6 pf6 p5 p5a p3 HO6
        go_wp2_with fail
        have hlo := HLO.out
        have hpr := HPR.out
        have h5z := HB5.out.size
        have h6z := HB6.out.size
        have hbr := HBr.out.2
        refine ⟨⟨i + 1, _, by go_num, hlt, HP7, ?_, ?_, ?_⟩, by simp [intOf]; omega⟩
        · show _ = _
          have hrl := (Array.getElem?_eq_some_iff.1 HR.out).1
          rw [HG7.out.block r (by omega) (by intro e; cases e; omega), HB6.out.block r (by omega)]
          exact HR5.out
        · exact HO6'.out.keepLo fun g hg hgl => HG7.out.block g hgl (by intro e; cases e; omega)
        · refine ⟨(HBr.out.1.trans (((HB5.out.mono (by omega)).trans (HB6.out.mono (by omega))))).grown HG7.out (by have := HBr.out.1.size; omega) (fun k hk => by cases hk; omega), ?_⟩
          have := HG7.out.size
          omega
    · have hie : i = n := by omega
      subst hie
      have HO' : Hid (Mm.OwnL wr lo lv (ws.map Pl.bulkT)) := by have := HO.out; rw [HNN.out, List.take_length] at this; exact this
      have p0 := Mm.cellOf (i := 0) (v := .int .i64 6) HP.out rfl
      have p1 := Mm.cellOf (i := 1) (v := .string ⟨#[]⟩) HP.out rfl
      have p2 := Mm.cellOf (i := 2) (v := .int .i64 0) HP.out rfl
      have p3 := Mm.cellOf (i := 3) (v := lv) HP.out rfl
      go_wp2_with (refine Mm.wp_store4 _ rfl _ _ rfl r _ _ (.int .i64 6) (.string ⟨#[]⟩) (.int .i64 0) lv HR.out rfl rfl rfl (by intro u hu; simp only [List.mem_cons, List.mem_nil_iff, or_false] at hu; rcases hu with rfl | rfl | rfl | rfl <;> first | rfl | exact HO'.out.one.1) ?_; intro wf hwf hsf hgf; have HWF := Pl.hid hwf; have HG := Pl.hid hgf; clear hwf hsf hgf)
      have hlo := HLO.out
      have hpr := HPR.out
      have hbr := HBr.out.2
      (try simp only [Exit.inBlock, Exit.then])
      refine bodyPost_ret (Mm.res_cell rfl _ wf r _ _ _ _ _ _ rfl HWF.out) rfl ?_
      refine ⟨_, _, _, _, rfl, ?_, HBr.out.1.grown HG.out (by omega) (fun k hk => by cases hk; omega)⟩
      refine ((HO'.out.rep 6 ⟨#[]⟩ 0).keepLo (fun g hg hgl => HG.out.block g hgl ?_)).x
      intro e
      cases e
      omega
theorem request_walk (v : Value) (ws : List (List UInt8)) (W w : World) (hT : Mm.Tab W) (hW : Below W.heap.size W w) (hv : Mm.RowT w v ws) (hn : ws.length ≤ 1048576) (hs : ∀ s ∈ ws, s.length ≤ 1048576) (hl : (Pl.reqE ws).length ≤ 1099511627776) :
    Calls Tryd.prog 11 #[v] w fun e w' => ∃ v', e = .returned v' ∧ Mm.OwnB w' w.heap.size v' (Pl.reqE ws) ∧ Below w.heap.size w w' := by
  have HT := Pl.hid hT
  have HW := Pl.hid hW
  have HV := Pl.hid hv
  clear hT hW hv
  go_enter Tryd.func11, Tryd.ntmps11
  go_wp2_with fail
  refine (bulks_walk v ws w HV.out hn hs).mono ?_
  rintro e w1 ⟨c0, c1, c2, c3, rfl, hx, hb1⟩
  have HB1 := Pl.hid hb1
  have HX := Pl.hid hx
  clear hx hb1
  go_wp2_with fail
  refine (lay_arr ws c0 c1 c2 c3 w1.heap.size _ [] w1 w1 (HT.out.on (HW.out.trans (HB1.out.mono HW.out.size))) HX.out (Below.refl _ _) (Nat.le_refl _) (Nat.le_refl _) (Mm.ownB_nil _ _) (by simpa using hl) (by omega) (fun s h => by have := hs s h; omega)).mono ?_
  rintro e w2 ⟨v2, rfl, ho2, hb2, _⟩
  have HO2 := Pl.hid ho2
  have HB2 := Pl.hid hb2
  clear ho2 hb2
  go_wp2_with fail
  go_ret
  refine ⟨_, rfl, ?_, HB1.out.trans (HB2.out.mono HB1.out.size)⟩
  have := HO2.out
  rw [List.nil_append] at this
  exact this.base0 HB1.out.size
end Go.Proofs.YtakldjdohgmeiaaDoor
