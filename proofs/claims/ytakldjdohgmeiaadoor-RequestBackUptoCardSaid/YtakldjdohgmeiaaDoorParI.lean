/- A parser's Feed. Conditions stand in each law. -/
import Derived.Test.YtakldjdohgmeiaaDoorParH
import Derived.Laws.AppendOwnNone
namespace Go.Proofs.YtakldjdohgmeiaaDoor
open Go.RowKit
set_option maxRecDepth 20000

namespace Pl
def feedA (st : Pst) (buf b : List UInt8) : Pst × List UInt8 :=
  if (feedM ((buf ++ b).length + 1) st (buf ++ b)).1.err = true then ({ (feedM ((buf ++ b).length + 1) st (buf ++ b)).1 with used := 0, words := [] }, []) else feedM ((buf ++ b).length + 1) st (buf ++ b)
theorem feedM_err {f : Nat} {st : Pst} {l : List UInt8} (h : st.err = true) : feedM (f + 1) st l = (st, l) := by unfold feedM; rw [if_pos h]
theorem feedM_stop {f : Nat} {st : Pst} {l : List UInt8} (h : st.err = false) (hn : (partM st l).1 = 0) : feedM (f + 1) st l = ((partM st l).2, l) := by unfold feedM; rw [if_neg (by rw [h]; simp), if_pos hn]
theorem feedM_go {f : Nat} {st : Pst} {l : List UInt8} (h : st.err = false) (hn : (partM st l).1 ≠ 0) : feedM (f + 1) st l = feedM f (partM st l).2 (l.drop (partM st l).1) := by
  conv => lhs; unfold feedM
  rw [if_neg (by rw [h]; simp), if_neg hn]
theorem feedA_err {st st' : Pst} {buf b T r : List UInt8} (h : buf ++ b = T) (hf : feedM (T.length + 1) st T = (st', r)) (he : st'.err = true) : feedA st buf b = ({ st' with used := 0, words := [] }, []) := by
  unfold feedA
  rw [h, hf]
  exact if_pos he
theorem feedA_ok {st st' : Pst} {buf b T r : List UInt8} (h : buf ++ b = T) (hf : feedM (T.length + 1) st T = (st', r)) (he : st'.err = false) : feedA st buf b = (st', r) := by
  unfold feedA
  rw [h, hf]
  exact if_neg (by rw [he]; simp)
end Pl

namespace Mm
open Pl
/-- a slice of bytes that came in -/
def Bs (w : World) (v : Value) (l : List UInt8) : Prop := ∃ a c, v = .slice a l.length c ∧ l.length ≤ c ∧ (a = none → c = 0) ∧ (0 < l.length → ∃ g o, a = some ⟨g, o, none⟩ ∧ BytesAt w g o l)
theorem Bs.rest {w : World} {v : Value} {l : List UInt8} (h : Bs w v l) : Rest w v l := by
  obtain ⟨a, c, h1, h2, _, h4⟩ := h
  exact ⟨a, c, h1, h2, h4⟩
theorem OwnB.bs {w : World} {b : Nat} {v : Value} {l : List UInt8} (h : OwnB w b v l) : Bs w v l := by
  obtain ⟨a, c, rfl, h0 | ⟨g, rfl, _, hg, hle⟩⟩ := h.val
  · exact ⟨_, _, rfl, by omega, fun _ => h0.2.2, fun h => by omega⟩
  · exact ⟨_, _, rfl, hle, fun e => (by cases e), fun _ => ⟨g, 0, rfl, h.bytesAt⟩⟩
theorem Bs.keep {w w' : World} {v : Value} {l : List UInt8} (h : Bs w v l) (hb : ∀ a n c g o, v = .slice a n c → a = some ⟨g, o, none⟩ → 0 < n → g < w.heap.size → w'.heap[g]? = w.heap[g]?) : Bs w' v l := by
  obtain ⟨a, c, h1, h2, h3, h4⟩ := h
  refine ⟨a, c, h1, h2, h3, fun hl => ?_⟩
  obtain ⟨g, o, e, hm⟩ := h4 hl
  exact ⟨g, o, e, hm.keep (hb a _ c g o h1 e hl (hm.lt hl))⟩
/-- 'append(s, b...)' -/
theorem wp_appW {ops : Array Oper} {rest : List Oper} {o : Oper} {a : Act} {Q : Exit → Act → World → Prop} (w : World) (hgd : o.guard = none) (x y : Operand)
    (ho : o.op = .call { callee := .builtin .append, args := #[x, y], argTypes := #[24, 24] })
    (base : Nat) (v : Value) (l : List UInt8) (hx : a.eval x = v) (h : OwnB w base v l) (vy : Value) (m : List UInt8) (hy : a.eval y = vy) (hm : Bs w vy m)
    (hl : l.length + m.length ≤ 140737488355328) (hbase : base ≤ w.heap.size)
    (hK : ∀ v' w', OwnB w' base v' (l ++ m) → w.grownBy w' v.ownBlock → (v'.ownBlock = v.ownBlock ∨ v'.ownBlock = some w.heap.size) → wpList Tryd.prog ops Q rest (a.put o.dst v') w') :
    wpList Tryd.prog ops Q (o :: rest) a w := by
  obtain ⟨i0, hi, hz0, hz1, hz2⟩ := info_parts Tryd.info_u8
  obtain ⟨p, c, rfl, hc, hn, hb⟩ := hm
  have hlen : (bytesV m).length = m.length := by simp [bytesV]
  cases p with
  | none =>
    obtain rfl := hn rfl
    have h0 : m.length = 0 := by omega
    obtain rfl : m = [] := List.eq_nil_of_length_eq_zero h0
    refine wpList_append_own_none hgd x y 24 ho base 5 i0 1 Tryd.underlying24 hi v l.length (bytesV l) hx h hy ?_
    exact hK v w (by rw [List.append_nil]; exact h) ⟨rfl, rfl, rfl, Nat.le_refl _, fun _ _ _ => rfl⟩ (.inl rfl)
  | some ad =>
    refine wpList_append_own_at _ hgd x y 24 ho base 5 i0 (.int .u8 0) 1 1 Tryd.underlying24 hi hz0 hz1 hz2 rfl (by decide) v l.length (bytesV l) hx h ad m.length c (bytesV m) hy (by rw [hlen]; omega) ?_ (bytesV_one m) ?_ (by omega) hbase ?_
    · intro j u hj
      have hj' : j < m.length := by
        have := (List.getElem?_eq_some_iff.1 hj).1
        simpa [bytesV] using this
      obtain ⟨g, off, e, hm⟩ := hb (by omega)
      injection e with e
      subst e
      have e : (⟨g, off, none⟩ : Addr).add j = ⟨g, off + j, none⟩ := by unfold Addr.add; split <;> simp_all
      rw [e, hm j hj']
      simp only [bytesV, List.getElem?_map, List.getElem?_eq_getElem hj', Option.map_some, Option.some.injEq] at hj
      rw [← hj]
      unfold at_ byteV
      rw [List.getD_eq_getElem?_getD, List.getElem?_eq_getElem hj']
      rfl
    · unfold maxLen; omega
    · intro v' w' h1 h2 _ h4
      refine hK v' w' ?_ h2 h4
      unfold OwnB
      rw [bytesV_append, List.length_append]
      exact h1
theorem PQ.lt {w : World} {p : Nat} {bv : Value} {st : Pst} {F : Nat → Prop} (h : PQ w p bv st F) (g : Nat) (hg : F g) : p ≤ g ∧ g < w.heap.size := by
  obtain ⟨wv, rv, ev, rows, h, rfl⟩ := h
  rcases hg with rfl | hg | hg | ⟨v, hv, hg⟩
  · exact ⟨Nat.le_refl _, h.lt⟩
  · have := h.2.1.lt g hg; omega
  · have := h.2.2.1.lt g hg; omega
  · obtain ⟨l, hl⟩ := h.2.2.2.1.row hv
    have := hl.lt g hg
    omega
theorem PQ.own {w : World} {p : Nat} {bv : Value} {st : Pst} {F : Nat → Prop} (h : PQ w p bv st F) : F p := by
  obtain ⟨wv, rv, ev, rows, h, rfl⟩ := h
  exact .inl rfl
theorem PV.keepF {w w' : World} {p : Nat} {bv wv rv ev : Value} {st : Pst} {rows : List Value} (h : PV w p bv st wv rv ev rows) (hb : ∀ g, g < w.heap.size → foot p wv rv rows g → w'.heap[g]? = w.heap[g]?) : PV w' p bv st wv rv ev rows :=
  ⟨(hb p h.lt (.inl rfl)).trans h.1, h.2.1.keep (fun g hg => hb g (h.2.1.lt g hg).2 (.inr (.inl hg))), ownsRow_keep h.2.2.1 (fun g hg => hb g (h.2.2.1.lt g hg).2 (.inr (.inr (.inl hg)))), h.2.2.2.1.keep (fun v hv g hg => by
    obtain ⟨l, ho⟩ := h.2.2.2.1.row hv
    exact hb g (ho.lt g hg).2 (.inr (.inr (.inr ⟨v, hv, hg⟩)))), h.2.2.2.2⟩
theorem Chg.or {w w' : World} {F F' : Nat → Prop} (h : Chg w F w' F') (v : Value) : Chg w (fun g => F g ∨ v.ownBlock = some g) w' (fun g => F' g ∨ v.ownBlock = some g) :=
  ⟨h.os, h.tape, h.output, h.size, fun g hg hn => h.block g hg (fun hf => hn (.inl hf)), fun g hg => by
    rcases hg with hg | hg
    · rcases h.foot g hg with h | h
      · exact .inl (.inl h)
      · exact .inr h
    · exact .inl (.inr hg)⟩
/-- the stretch lies in the row's block -/
def InB (rv v : Value) : Prop := ∀ a n c g o, rv = .slice a n c → a = some ⟨g, o, none⟩ → 0 < n → v.ownBlock = some g
theorem OwnB.inB {w : World} {b : Nat} {v : Value} {l : List UInt8} (h : OwnB w b v l) : InB v v := by
  intro a n c g o e ha hn
  subst e ha
  rcases h.2 with ⟨e, h0⟩ | ⟨g', cap, cur, e, _⟩
  · injection e with e1 e2
    cases e1
  · injection e with e1 e2
    injection e1 with e1
    injection e1 with e1 e3
    subst e1 e3
    rfl
def sliceN : Value → Nat | .slice _ n _ => n | _ => 0
/-- a parser, whose bytes are held in blocks of its own; G: what it may change -/
def PB (w : World) (p : Nat) (buf : List UInt8) (st : Pst) (G : Nat → Prop) : Prop :=
  ∃ bv F, PQ w p bv st F ∧ OwnB w (p + 1) bv buf ∧ (∀ g, bv.ownBlock = some g → ¬ F g) ∧ ∀ g, G g ↔ F g ∨ bv.ownBlock = some g
end Mm

set_option maxHeartbeats 8000000 in
theorem feed_walk (p : Nat) (v : Value) (b buf : List UInt8) (st : Pl.Pst) (G : Nat → Prop) (W w : World) (hpW : W.heap.size ≤ p) (hR : Mm.RErr W) (hE : Mm.Errs W) (hI : Mm.InlE W) (hW : Below W.heap.size W w) (hl : b.length ≤ 16777216) (hbl : buf.length ≤ 16777216) (hv : Mm.Bs w v b)
    (hp : Mm.PB w p buf st G) (he : st.err = false) (hok : Pl.okP st) (U : Nat) (hb : Pl.bnd st U) (hU : U + buf.length + b.length ≤ 1099511627776) :
    Calls Tryd.prog 41 #[.pointer (some ⟨p, 0, none⟩), v] w fun e w' => e = .returned (.int .i64 0) ∧ ∃ G', Mm.PB w' p (Pl.feedA st buf b).2 (Pl.feedA st buf b).1 G' ∧ Mm.Chg w G w' G' := by
  obtain ⟨bv, F, hq, ho, hd, hG⟩ := hp
  obtain ⟨wv, rv, ev, rows, hpv, hF⟩ := hq
  obtain ⟨a, c, rfl, hc, hn, hbytes⟩ := hv
  have hev : ev = .nilIface := by
    rcases hpv.2.2.2.2.2.2 with ⟨e, _⟩ | ⟨_, e⟩
    · rw [he] at e; cases e
    · exact e
  subst hev
  have HBs : Hid (Mm.Bs w (.slice a b.length c) b) := ⟨a, c, rfl, hc, hn, hbytes⟩
  have c7 := hpv.cell 7 .nilIface rfl
  have c0 := hpv.cell 0 bv rfl
  have HV := Pl.hid hpv
  have HF := Pl.hid hF
  have HO := Pl.hid ho
  have HD := Pl.hid hd
  have HGG := Pl.hid hG
  have HR := Pl.hid hR
  have HE := Pl.hid hE
  have HI := Pl.hid hI
  have HW := Pl.hid hW
  have HPW := Pl.hid hpW
  have hpl := hpv.lt
  have HPL := Pl.hid hpl
  have HB := Pl.hid hb
  have HOK := Pl.hid hok
  have He := Pl.hid he
  have HLEN : Hid (buf.length + b.length ≤ 140737488355328) := by show _ ≤ _; omega
  clear hpv hF ho hd hG hR hE hI hW hpW hbytes hc hn hb hok he
  have hTl : (buf ++ b).length = buf.length + b.length := List.length_append
  obtain ⟨T, hT⟩ : ∃ T, buf ++ b = T := ⟨_, rfl⟩
  rw [hT] at hTl
  have HT := Pl.hid hT
  have HTL := Pl.hid hTl
  clear hT hTl
  go_enter Tryd.func41, Tryd.ntmps41
  go_wp2_with (at_builtin; refine Mm.wp_appW w rfl _ _ (by rfl) (p + 1) bv buf (by rfl) HO.out _ b (by rfl) HBs.out HLEN.out hpl ?_; intro v1 w1 ho1 hg1 hat1; refine Hid.out ?_)
  refine Pl.hid ?_
  rw [HT.out] at ho1
  obtain ⟨a1, c1, rfl, hv1⟩ := ho1.val
  have HF1 : Hid (∀ g, (Value.slice a1 T.length c1).ownBlock = some g → ¬ F g) := fun g hg hf => by
    rcases hat1 with e | e
    · exact HD.out g (by rw [← e]; exact hg) hf
    · rw [e] at hg
      injection hg with hg
      have := (Mm.PQ.lt ⟨wv, rv, _, rows, HV.out, HF.out⟩ g hf).2
      omega
  have HV1 : Hid (Mm.PV w1 p bv st wv rv .nilIface rows) := HV.out.keepF fun g hgl hf => hg1.block g hgl (fun e => HD.out g e.symm (by rw [HF.out]; exact hf))
  have HO1 := Pl.hid ho1
  have HG1 := Pl.hid hg1
  have HAT := Pl.hid hat1
  have hpl1 := HV1.out.lt
  clear ho1 hg1 hat1 hv1 c7 c0
  go_wp2_with (first | (refine Mm.wp_storeF _ rfl 24 _ _ (by rfl) (by kernel_rfl) p 0 90 (Mm.cellsP bv wv rv .nilIface st) _ HV1.out.1 (by rfl) (by rfl) (by simp [Mm.cellsP]) rfl rfl ?_; intro w2 h2 hz2 hg2; refine Hid.out ?_))
  refine Pl.hid ?_
  have HV2 : Hid (Mm.PV w2 p (.slice a1 T.length c1) st wv rv .nilIface rows) := HV1.out.store hg2 h2 rfl rfl HV1.out.2.2.2.2.2.2
  have HO2 : Hid (Mm.OwnB w2 (p + 1) (.slice a1 T.length c1) T) := HO1.out.keep fun g hg => hg2.block g (HO1.out.lt g hg).2 (fun e => by injection e with e; have := (HO1.out.lt g hg).1; omega)
  have HC2 : Hid (Mm.Chg w G w2 (fun g => F g ∨ (Value.slice a1 T.length c1).ownBlock = some g)) := by
    have hz := HG1.out.size
    refine ⟨hg2.os.trans HG1.out.os, hg2.tape.trans HG1.out.tape, hg2.output.trans HG1.out.output, Nat.le_trans hz hg2.size, fun g hgl hng => ?_, fun g hg => ?_⟩
    · rw [hg2.block g (by omega) (fun e => by injection e with e; exact hng ((HGG.out g).2 (.inl (by rw [HF.out]; exact .inl e)))), HG1.out.block g hgl (fun e => hng ((HGG.out g).2 (.inr e.symm)))]
    · rcases hg with hg | hg
      · exact .inl ((HGG.out g).2 (.inl hg))
      · rcases HAT.out with e | e
        · exact .inl ((HGG.out g).2 (.inr (by rw [← e]; exact hg)))
        · rw [e] at hg
          injection hg with hg
          exact .inr (by omega)
  have HW2 : Hid (Below W.heap.size W w2) := HC2.out.under HW.out fun g hg => by
    rcases (HGG.out g).1 hg with hg | hg
    · have := (Mm.PQ.lt ⟨wv, rv, _, rows, HV.out, HF.out⟩ g hg).1
      have := HPW.out
      omega
    · have := (HO.out.lt g hg).1
      have := HPW.out
      omega
  have c0 := HV2.out.cell 0 (.slice a1 T.length c1) rfl
  clear h2 hz2 hg2
  go_wp2_with fail
  clear c0
  go_loopw [5, 6] (fun rv' _ wr => ∃ (rest : List UInt8) (st1 : Pl.Pst) (F1 : Nat → Prop) (f U1 : Nat) (a2 : Option Addr) (c2 : Nat), rv' = .slice a2 rest.length c2 ∧ Hid (Mm.Bs wr (.slice a2 rest.length c2) rest ∧ Mm.InB (.slice a2 rest.length c2) (.slice a1 T.length c1)) ∧ rest.length ≤ T.length ∧
      Hid (Mm.PQ wr p (.slice a1 T.length c1) st1 F1) ∧ Hid (Mm.Chg w2 F wr F1) ∧ Hid (Mm.OwnB wr (p + 1) (.slice a1 T.length c1) T) ∧ Hid (∀ g, (Value.slice a1 T.length c1).ownBlock = some g → ¬ F1 g) ∧
      Hid (Pl.feedM f st1 rest = Pl.feedM (T.length + 1) st T) ∧ Hid (rest.length < f) ∧ Hid (Pl.okP st1) ∧ Hid (Pl.bnd st1 U1) ∧ U1 + rest.length ≤ U + T.length ∧ Hid (rest.length = T.length → rest = T)) (fun rv' _ _ => Mm.sliceN rv')
  case atStart => exact ⟨T, st, F, T.length + 1, U, a1, c1, rfl, ⟨HO2.out.bs, HO2.out.inB⟩, Nat.le_refl _, ⟨wv, rv, .nilIface, rows, HV2.out, HF.out⟩, Mm.Chg.refl _ _, HO2.out, HF1.out, rfl, Nat.lt_succ_self _, HOK.out, HB.out, Nat.le_refl _, fun _ => rfl⟩
  case round =>
    obtain ⟨rest, st1, F1, f, U1, a2, c2, rfl, HBR, hrl, HQ, HCH, HOW, HDJ, HFM, HLF, HOK1, HB1, hU1, HEQ⟩ := hrel
    obtain ⟨f, rfl⟩ : ∃ f', f = f' + 1 := ⟨f - 1, by have := HLF.out; omega⟩
    have HWr : Hid (Below W.heap.size W wr) := HCH.out.under HW2.out fun g hg => by
      have := (Mm.PQ.lt ⟨wv, rv, _, rows, HV2.out, HF.out⟩ g hg).1
      have := HPW.out
      omega
    obtain ⟨wv1, rv1, ev1, rows1, hpv1, hF1⟩ := HQ.out
    cases he1 : st1.err with
    | true =>
      obtain ⟨T3, x3, rfl⟩ : ∃ T x, ev1 = .iface T x := by
        rcases hpv1.2.2.2.2.2.2 with ⟨_, h⟩ | ⟨h, _⟩
        · exact h
        · rw [he1] at h; cases h
      have HERR := Pl.hid he1
      have HFMX : Hid (Pl.feedM (T.length + 1) st T = (st1, rest)) := HFM.out.symm.trans (Pl.feedM_err he1)
      have c7 := hpv1.cell 7 (.iface T3 x3) rfl
      have HVX := Pl.hid hpv1
      have HFX := Pl.hid hF1
      have HCX := HCH
      have HOX := HOW
      have HDX := HDJ
      have HRX : Hid (Mm.Bs wr (.slice a2 rest.length c2) rest) := HBR.out.1
      clear hpv1 hF1 he1
      have c0 := HVX.out.cell 0 (.slice a1 T.length c1) rfl
      have hplX := HVX.out.lt
      have hl47 : ([] : List UInt8).length + rest.length ≤ 140737488355328 := by have := HTL.out; simp; omega
      have HPQX : Hid (Mm.PQ wr p (.slice a1 T.length c1) st1 F1) := ⟨_, _, _, _, HVX.out, HFX.out⟩
      have HGX : Hid (Mm.Chg w G wr (fun g => F1 g ∨ (Value.slice a1 T.length c1).ownBlock = some g)) := HC2.out.trans (HCX.out.or _)
      rcases Nat.lt_or_ge rest.length T.length with hlt | hge
      · go_wp2_with (first
          | (at_builtin; refine Mm.wp_appW wr rfl _ _ (by rfl) (p + 1) (.slice none 0 0) [] (by rfl) (Mm.ownB_nil _ _) _ rest (by rfl) HRX.out hl47 hplX ?_; intro v5 w5 ho5 hg5 hat5; obtain ⟨a5, k5, rfl, _⟩ := ho5.val; have HO5 := Pl.hid ho5; have HG5 := Pl.hid hg5; have HAT5 := Pl.hid hat5; have HV5 := Pl.hid (HVX.out.below ((Below.refl _ _).grown HG5.out (Nat.le_refl _) (fun k hk => by cases hk))); clear ho5 hg5 hat5)
          | (refine Mm.wp_storeF _ rfl 24 _ _ (by rfl) (by kernel_rfl) p 0 90 _ _ H6.out (by rfl) (by rfl) (by simp [Mm.cellsP]) rfl rfl ?_; intro w7 h7 hz7 hg7; have H7 := Pl.hid h7; have HG7 := Pl.hid hg7; clear h7 hz7 hg7; clear c7)
          | (refine Mm.wp_storeF _ rfl 24 _ _ (by rfl) (by kernel_rfl) p 0 90 (Mm.cellsP (.slice a1 T.length c1) wv1 rv1 (Value.iface T3 x3) st1) _ HV5.out.1 (by rfl) (by rfl) (by simp [Mm.cellsP]) rfl rfl ?_; intro w6 h6 hz6 hg6; have H6 := Pl.hid h6; have HG6 := Pl.hid hg6; clear h6 hz6 hg6; have c7 := Mm.cellOf (i := 7) (v := (Value.iface T3 x3)) H6.out rfl)
          | (refine Mm.wp_storeF _ rfl 3 _ _ (by rfl) (by kernel_rfl) p 1 90 _ _ H7.out (by rfl) (by rfl) (by simp [Mm.cellsP]) rfl rfl ?_; intro w8 h8 hz8 hg8; have H8 := Pl.hid h8; have HG8 := Pl.hid hg8; clear h8 hz8 hg8)
          | (refine Mm.wp_storeF _ rfl 22 _ _ (by rfl) (by kernel_rfl) p 2 90 _ _ H8.out (by rfl) (by rfl) (by simp [Mm.cellsP]) rfl rfl ?_; intro w9 h9 hz9 hg9; have H9 := Pl.hid h9; have HG9 := Pl.hid hg9; clear h9 hz9 hg9))
        go_ret
        rw [Pl.feedA_err HT.out HFMX.out HERR.out]
        have hgz := Mm.gTrans HG6.out (Mm.gTrans HG7.out (Mm.gTrans HG8.out HG9.out))
        have hvz := HV5.out
        have hbz : Below wr.heap.size wr w5 := (Below.refl _ _).grown HG5.out (Nat.le_refl _) (fun k hk => by cases hk)
        refine ⟨rfl, _, ⟨.slice none 0 0, Mm.foot p (.slice none 0 0) rv1 rows1, ⟨_, _, _, _, hvz.clear hgz H9.out rfl rfl ?_, rfl⟩, Mm.ownB_nil _ _, fun g hg => (by cases hg), fun g => Iff.rfl⟩, ?_⟩
        · first | exact HVX.out.2.2.2.2.2.2 | exact .inl ⟨rfl, _, _, rfl⟩ | exact .inl ⟨HERR.out, _, _, rfl⟩
        · refine HGX.out.trans ((Mm.Chg.below hbz).trans (Mm.Chg.grown hgz (fun g e => by injection e with e; exact .inl (by rw [HFX.out]; exact .inl e.symm)) (fun g hg => ?_)))
          rcases hg with (h | h | h) | h
          · exact .inl (.inl (by rw [HFX.out]; exact .inl h))
          · cases h
          · exact .inl (.inl (by rw [HFX.out]; exact .inr (.inr h)))
          · cases h
      · obtain rfl : rest = T := HEQ.out (by omega)
        go_wp2_with (first
          | (refine Mm.wp_storeF _ rfl 24 _ _ (by rfl) (by kernel_rfl) p 0 90 (Mm.cellsP (.slice a1 rest.length c1) wv1 rv1 (Value.iface T3 x3) st1) _ HVX.out.1 (by rfl) (by rfl) (by simp [Mm.cellsP]) rfl rfl ?_; intro w7 h7 hz7 hg7; have H7 := Pl.hid h7; have HG7 := Pl.hid hg7; clear h7 hz7 hg7; clear c7)
          | (refine Mm.wp_storeF _ rfl 3 _ _ (by rfl) (by kernel_rfl) p 1 90 _ _ H7.out (by rfl) (by rfl) (by simp [Mm.cellsP]) rfl rfl ?_; intro w8 h8 hz8 hg8; have H8 := Pl.hid h8; have HG8 := Pl.hid hg8; clear h8 hz8 hg8)
          | (refine Mm.wp_storeF _ rfl 22 _ _ (by rfl) (by kernel_rfl) p 2 90 _ _ H8.out (by rfl) (by rfl) (by simp [Mm.cellsP]) rfl rfl ?_; intro w9 h9 hz9 hg9; have H9 := Pl.hid h9; have HG9 := Pl.hid hg9; clear h9 hz9 hg9))
        go_ret
        rw [Pl.feedA_err HT.out HFMX.out HERR.out]
        have hgz := Mm.gTrans HG7.out (Mm.gTrans HG8.out HG9.out)
        refine ⟨rfl, _, ⟨.slice none 0 0, Mm.foot p (.slice none 0 0) rv1 rows1, ⟨_, _, _, _, HVX.out.clear hgz H9.out rfl rfl ?_, rfl⟩, Mm.ownB_nil _ _, fun g hg => (by cases hg), fun g => Iff.rfl⟩, ?_⟩
        · first | exact HVX.out.2.2.2.2.2.2 | exact .inl ⟨rfl, _, _, rfl⟩ | exact .inl ⟨HERR.out, _, _, rfl⟩
        · refine HGX.out.trans (Mm.Chg.grown hgz (fun g e => by injection e with e; exact .inl (by rw [HFX.out]; exact .inl e.symm)) (fun g hg => ?_))
          rcases hg with (h | h | h) | h
          · exact .inl (.inl (by rw [HFX.out]; exact .inl h))
          · cases h
          · exact .inl (.inl (by rw [HFX.out]; exact .inr (.inr h)))
          · cases h
    | false =>
      obtain rfl : ev1 = .nilIface := by
        rcases hpv1.2.2.2.2.2.2 with ⟨h, _⟩ | ⟨_, h⟩
        · rw [he1] at h; cases h
        · exact h
      have c7 := hpv1.cell 7 .nilIface rfl
      have hpo := Pl.part_ok (l := rest) HOK1.out he1
      have HPC := Pl.hid (part_walk p (.slice a2 rest.length c2) rest (.slice a1 T.length c1) st1 F1 W wr HPW.out HR.out HE.out HI.out HWr.out (by have := HTL.out; omega) HBR.out.1.rest HQ.out he1 HOK1.out U1 HB1.out (by have := HTL.out; omega))
      have HSTOP := Pl.hid (fun h => Pl.feedM_stop (f := f) (l := rest) he1 h)
      have HGO := Pl.hid (fun h => Pl.feedM_go (f := f) (l := rest) he1 h)
      obtain ⟨k, hk⟩ : ∃ k, (Pl.partM st1 rest).1 = k := ⟨_, rfl⟩
      obtain ⟨st2, hst2⟩ : ∃ st2, (Pl.partM st1 rest).2 = st2 := ⟨_, rfl⟩
      rw [hk, hst2] at HPC hpo HSTOP HGO
      have HOK2 := Pl.hid hpo.1
      have HB2 := Pl.hid (hpo.2.2 U1 HB1.out)
      have hkl := hpo.2.1
      clear hk hst2 hpo hpv1 hF1 he1
      go_wp2_with fail
      refine HPC.out.mono ?_
      rintro e w3 ⟨rfl, F2, hq2, hch2⟩
      have hc3 := HCH.out.trans hch2
      have HCX := Pl.hid hc3
      have HBR3 : Hid (Mm.Bs w3 (.slice a2 rest.length c2) rest) := HBR.out.1.keep fun a n c g o e1 e2 e3 e4 => hch2.block g e4 (HDJ.out g (HBR.out.2 a n c g o e1 e2 e3))
      have HOX : Hid (Mm.OwnB w3 (p + 1) (.slice a1 T.length c1) T) := HOW.out.keep fun g hg => hch2.block g (HOW.out.lt g hg).2 (HDJ.out g hg)
      have HDX : Hid (∀ g, (Value.slice a1 T.length c1).ownBlock = some g → ¬ F2 g) := fun g hg hf => by
        rcases hch2.foot g hf with h | h
        · exact HDJ.out g hg h
        · have := (HOW.out.lt g hg).2
          omega
      have HQ2 := Pl.hid hq2
      clear c7 hch2 hc3 hq2
      rcases Nat.eq_zero_or_pos k with hk0 | hk0
      · subst hk0
        have HFMX : Hid (Pl.feedM (T.length + 1) st T = (st2, rest)) := HFM.out.symm.trans (HSTOP.out rfl)
        have HRX := HBR3
        obtain ⟨wvX, rvX, evX, rowsX, hpvX, hFX⟩ := HQ2.out
        have HVX := Pl.hid hpvX
        have HFX := Pl.hid hFX
        clear hpvX hFX
        have c7 := HVX.out.cell 7 evX rfl
        cases he2 : st2.err with
        | true =>
          have HERR := Pl.hid he2
          obtain ⟨T3, x3, rfl⟩ : ∃ T x, evX = .iface T x := by
            rcases HVX.out.2.2.2.2.2.2 with ⟨_, h⟩ | ⟨h, _⟩
            · exact h
            · rw [he2] at h; cases h
          clear he2
          have c0 := HVX.out.cell 0 (.slice a1 T.length c1) rfl
          have hplX := HVX.out.lt
          have hl47 : ([] : List UInt8).length + rest.length ≤ 140737488355328 := by have := HTL.out; simp; omega
          have HPQX : Hid (Mm.PQ w3 p (.slice a1 T.length c1) st2 F2) := ⟨_, _, _, _, HVX.out, HFX.out⟩
          have HGX : Hid (Mm.Chg w G w3 (fun g => F2 g ∨ (Value.slice a1 T.length c1).ownBlock = some g)) := HC2.out.trans (HCX.out.or _)
          rcases Nat.lt_or_ge rest.length T.length with hlt | hge
          · go_wp2_with (first
              | (at_builtin; refine Mm.wp_appW w3 rfl _ _ (by rfl) (p + 1) (.slice none 0 0) [] (by rfl) (Mm.ownB_nil _ _) _ rest (by rfl) HRX.out hl47 hplX ?_; intro v5 w5 ho5 hg5 hat5; obtain ⟨a5, k5, rfl, _⟩ := ho5.val; have HO5 := Pl.hid ho5; have HG5 := Pl.hid hg5; have HAT5 := Pl.hid hat5; have HV5 := Pl.hid (HVX.out.below ((Below.refl _ _).grown HG5.out (Nat.le_refl _) (fun k hk => by cases hk))); clear ho5 hg5 hat5)
              | (refine Mm.wp_storeF _ rfl 24 _ _ (by rfl) (by kernel_rfl) p 0 90 _ _ H6.out (by rfl) (by rfl) (by simp [Mm.cellsP]) rfl rfl ?_; intro w7 h7 hz7 hg7; have H7 := Pl.hid h7; have HG7 := Pl.hid hg7; clear h7 hz7 hg7; clear c7)
              | (refine Mm.wp_storeF _ rfl 24 _ _ (by rfl) (by kernel_rfl) p 0 90 (Mm.cellsP (.slice a1 T.length c1) wvX rvX (Value.iface T3 x3) st2) _ HV5.out.1 (by rfl) (by rfl) (by simp [Mm.cellsP]) rfl rfl ?_; intro w6 h6 hz6 hg6; have H6 := Pl.hid h6; have HG6 := Pl.hid hg6; clear h6 hz6 hg6; have c7 := Mm.cellOf (i := 7) (v := (Value.iface T3 x3)) H6.out rfl)
              | (refine Mm.wp_storeF _ rfl 3 _ _ (by rfl) (by kernel_rfl) p 1 90 _ _ H7.out (by rfl) (by rfl) (by simp [Mm.cellsP]) rfl rfl ?_; intro w8 h8 hz8 hg8; have H8 := Pl.hid h8; have HG8 := Pl.hid hg8; clear h8 hz8 hg8)
              | (refine Mm.wp_storeF _ rfl 22 _ _ (by rfl) (by kernel_rfl) p 2 90 _ _ H8.out (by rfl) (by rfl) (by simp [Mm.cellsP]) rfl rfl ?_; intro w9 h9 hz9 hg9; have H9 := Pl.hid h9; have HG9 := Pl.hid hg9; clear h9 hz9 hg9))
            go_ret
            rw [Pl.feedA_err HT.out HFMX.out HERR.out]
            have hgz := Mm.gTrans HG6.out (Mm.gTrans HG7.out (Mm.gTrans HG8.out HG9.out))
            have hvz := HV5.out
            have hbz : Below w3.heap.size w3 w5 := (Below.refl _ _).grown HG5.out (Nat.le_refl _) (fun k hk => by cases hk)
            refine ⟨rfl, _, ⟨.slice none 0 0, Mm.foot p (.slice none 0 0) rvX rowsX, ⟨_, _, _, _, hvz.clear hgz H9.out rfl rfl ?_, rfl⟩, Mm.ownB_nil _ _, fun g hg => (by cases hg), fun g => Iff.rfl⟩, ?_⟩
            · first | exact HVX.out.2.2.2.2.2.2 | exact .inl ⟨rfl, _, _, rfl⟩ | exact .inl ⟨HERR.out, _, _, rfl⟩
            · refine HGX.out.trans ((Mm.Chg.below hbz).trans (Mm.Chg.grown hgz (fun g e => by injection e with e; exact .inl (by rw [HFX.out]; exact .inl e.symm)) (fun g hg => ?_)))
              rcases hg with (h | h | h) | h
              · exact .inl (.inl (by rw [HFX.out]; exact .inl h))
              · cases h
              · exact .inl (.inl (by rw [HFX.out]; exact .inr (.inr h)))
              · cases h
          · obtain rfl : rest = T := HEQ.out (by omega)
            go_wp2_with (first
              | (refine Mm.wp_storeF _ rfl 24 _ _ (by rfl) (by kernel_rfl) p 0 90 (Mm.cellsP (.slice a1 rest.length c1) wvX rvX (Value.iface T3 x3) st2) _ HVX.out.1 (by rfl) (by rfl) (by simp [Mm.cellsP]) rfl rfl ?_; intro w7 h7 hz7 hg7; have H7 := Pl.hid h7; have HG7 := Pl.hid hg7; clear h7 hz7 hg7; clear c7)
              | (refine Mm.wp_storeF _ rfl 3 _ _ (by rfl) (by kernel_rfl) p 1 90 _ _ H7.out (by rfl) (by rfl) (by simp [Mm.cellsP]) rfl rfl ?_; intro w8 h8 hz8 hg8; have H8 := Pl.hid h8; have HG8 := Pl.hid hg8; clear h8 hz8 hg8)
              | (refine Mm.wp_storeF _ rfl 22 _ _ (by rfl) (by kernel_rfl) p 2 90 _ _ H8.out (by rfl) (by rfl) (by simp [Mm.cellsP]) rfl rfl ?_; intro w9 h9 hz9 hg9; have H9 := Pl.hid h9; have HG9 := Pl.hid hg9; clear h9 hz9 hg9))
            go_ret
            rw [Pl.feedA_err HT.out HFMX.out HERR.out]
            have hgz := Mm.gTrans HG7.out (Mm.gTrans HG8.out HG9.out)
            refine ⟨rfl, _, ⟨.slice none 0 0, Mm.foot p (.slice none 0 0) rvX rowsX, ⟨_, _, _, _, HVX.out.clear hgz H9.out rfl rfl ?_, rfl⟩, Mm.ownB_nil _ _, fun g hg => (by cases hg), fun g => Iff.rfl⟩, ?_⟩
            · first | exact HVX.out.2.2.2.2.2.2 | exact .inl ⟨rfl, _, _, rfl⟩ | exact .inl ⟨HERR.out, _, _, rfl⟩
            · refine HGX.out.trans (Mm.Chg.grown hgz (fun g e => by injection e with e; exact .inl (by rw [HFX.out]; exact .inl e.symm)) (fun g hg => ?_))
              rcases hg with (h | h | h) | h
              · exact .inl (.inl (by rw [HFX.out]; exact .inl h))
              · cases h
              · exact .inl (.inl (by rw [HFX.out]; exact .inr (.inr h)))
              · cases h
        | false =>
          have HERR := Pl.hid he2
          obtain rfl : evX = .nilIface := by
            rcases HVX.out.2.2.2.2.2.2 with ⟨h, _⟩ | ⟨_, h⟩
            · rw [he2] at h; cases h
            · exact h
          clear he2
          have c0 := HVX.out.cell 0 (.slice a1 T.length c1) rfl
          have hplX := HVX.out.lt
          have hl47 : ([] : List UInt8).length + rest.length ≤ 140737488355328 := by have := HTL.out; simp; omega
          have HPQX : Hid (Mm.PQ w3 p (.slice a1 T.length c1) st2 F2) := ⟨_, _, _, _, HVX.out, HFX.out⟩
          have HGX : Hid (Mm.Chg w G w3 (fun g => F2 g ∨ (Value.slice a1 T.length c1).ownBlock = some g)) := HC2.out.trans (HCX.out.or _)
          rcases Nat.lt_or_ge rest.length T.length with hlt | hge
          · go_wp2_with (first
              | (at_builtin; refine Mm.wp_appW w3 rfl _ _ (by rfl) (p + 1) (.slice none 0 0) [] (by rfl) (Mm.ownB_nil _ _) _ rest (by rfl) HRX.out hl47 hplX ?_; intro v5 w5 ho5 hg5 hat5; obtain ⟨a5, k5, rfl, _⟩ := ho5.val; have HO5 := Pl.hid ho5; have HG5 := Pl.hid hg5; have HAT5 := Pl.hid hat5; have HV5 := Pl.hid (HVX.out.below ((Below.refl _ _).grown HG5.out (Nat.le_refl _) (fun k hk => by cases hk))); clear ho5 hg5 hat5)
              | (refine Mm.wp_storeF _ rfl 24 _ _ (by rfl) (by kernel_rfl) p 0 90 (Mm.cellsP (.slice a1 T.length c1) wvX rvX Value.nilIface st2) _ HV5.out.1 (by rfl) (by rfl) (by simp [Mm.cellsP]) rfl rfl ?_; intro w6 h6 hz6 hg6; have H6 := Pl.hid h6; have HG6 := Pl.hid hg6; clear h6 hz6 hg6; have c7 := Mm.cellOf (i := 7) (v := Value.nilIface) H6.out rfl))
            go_ret
            rw [Pl.feedA_ok HT.out HFMX.out HERR.out]
            have hbz : Below w3.heap.size w3 w5 := (Below.refl _ _).grown HG5.out (Nat.le_refl _) (fun k hk => by cases hk)
            have hnew : ∀ g, (Value.slice a5 ([] ++ rest).length k5).ownBlock = some g → w3.heap.size ≤ g := fun g hg => by
              rcases HAT5.out with e | e
              · rw [e] at hg; cases hg
              · rw [e] at hg; injection hg with hg; omega
            refine ⟨rfl, _, ⟨_, F2, ⟨wvX, rvX, Value.nilIface, rowsX, HV5.out.store HG6.out H6.out rfl rfl HVX.out.2.2.2.2.2.2, HFX.out⟩, HO5.out.keep (fun g hg => HG6.out.block g (HO5.out.lt g hg).2 (fun e => by injection e with e; have := (HO5.out.lt g hg).1; omega)), fun g hg hf => ?_, fun g => Iff.rfl⟩, ?_⟩
            · have := hnew g hg
              have := (HPQX.out.lt g hf).2
              omega
            · refine HGX.out.trans (Mm.Chg.grown (Mm.gTrans (Mm.gBelow hbz) HG6.out) (fun g e => by injection e with e; exact .inl (by rw [HFX.out]; exact .inl e.symm)) (fun g hg => ?_))
              rcases hg with h | h
              · exact .inl (.inl h)
              · exact .inr (hnew g h)
          · obtain rfl : rest = T := HEQ.out (by omega)
            go_wp2_with fail
            go_ret
            rw [Pl.feedA_ok HT.out HFMX.out HERR.out]
            exact ⟨rfl, _, ⟨_, F2, HPQX.out, HOX.out, HDX.out, fun g => Iff.rfl⟩, HGX.out⟩
      · have hr0 : 0 < rest.length := by omega
        obtain ⟨a', c', e', hc', _, hby⟩ := HBR3.out
        injection e' with e1 e2 e3
        subst e1 e3
        obtain ⟨g0, o0, rfl, hm0⟩ := hby hr0
        have hkz : ((k : Int) == 0) = false := beq_eq_false_iff_ne.2 (by omega)
        have HM0 := Pl.hid hm0
        have HFM2 : Hid (Pl.feedM f st2 (rest.drop k) = Pl.feedM (T.length + 1) st T) := (HGO.out (by omega)).symm.trans HFM.out
        have hdl : (rest.drop k).length = rest.length - k := List.length_drop
        have HDL := Pl.hid hdl
        have HIB := Pl.hid (HBR.out.2 _ _ _ g0 o0 rfl rfl hr0)
        have HDR : Hid (∀ aa cc, rest.length - k ≤ cc → (rest.length - k = 0 ∨ aa = some ⟨g0, o0 + k, none⟩) → (aa = none → cc = 0) → Mm.Bs w3 (.slice aa (rest.drop k).length cc) (rest.drop k) ∧ Mm.InB (.slice aa (rest.drop k).length cc) (.slice a1 T.length c1)) := fun aa cc h1 h2 h3 => by
          refine ⟨⟨aa, cc, rfl, by rw [HDL.out]; exact h1, h3, fun hp => ?_⟩, fun a n c g o e1 e2 e3 => ?_⟩
          · rcases h2 with h2 | h2
            · rw [HDL.out] at hp; omega
            · exact ⟨g0, o0 + k, h2, HM0.out.drop k⟩
          · injection e1 with e1 e4 e5
            rcases h2 with h2 | h2
            · rw [HDL.out] at e4; omega
            · rw [← e1, h2] at e2
              injection e2 with e2
              injection e2 with e2
              subst e2
              exact HIB.out
        have hlf := HLF.out
        have REL : Hid (∀ aa cc, rest.length - k ≤ cc → (rest.length - k = 0 ∨ aa = some ⟨g0, o0 + k, none⟩) → (aa = none → cc = 0) → ∃ (rest' : List UInt8) (st1 : Pl.Pst) (F1 : Nat → Prop) (f U1 : Nat) (a2 : Option Addr) (c2 : Nat), Value.slice aa (rest.length - k) cc = .slice a2 rest'.length c2 ∧ Hid (Mm.Bs w3 (.slice a2 rest'.length c2) rest' ∧ Mm.InB (.slice a2 rest'.length c2) (.slice a1 T.length c1)) ∧ rest'.length ≤ T.length ∧
            Hid (Mm.PQ w3 p (.slice a1 T.length c1) st1 F1) ∧ Hid (Mm.Chg w2 F w3 F1) ∧ Hid (Mm.OwnB w3 (p + 1) (.slice a1 T.length c1) T) ∧ Hid (∀ g, (Value.slice a1 T.length c1).ownBlock = some g → ¬ F1 g) ∧
            Hid (Pl.feedM f st1 rest' = Pl.feedM (T.length + 1) st T) ∧ Hid (rest'.length < f) ∧ Hid (Pl.okP st1) ∧ Hid (Pl.bnd st1 U1) ∧ U1 + rest'.length ≤ U + T.length ∧ Hid (rest'.length = T.length → rest' = T)) := fun aa cc h1 h2 h3 =>
          ⟨rest.drop k, st2, F2, f, U1 + k, aa, cc, by rw [HDL.out], HDR.out aa cc h1 h2 h3, by rw [HDL.out]; omega, HQ2.out, HCX.out, HOX.out, HDX.out, HFM2.out, (by show _ < _; rw [HDL.out]; have := HLF.out; omega), HOK2.out, HB2.out, by rw [HDL.out]; omega, fun e => by rw [HDL.out] at e; omega⟩
        clear hdl hlf hby hm0 HDR
        rcases Decidable.em (c2 = k) with hck | hck
        · subst hck
          have hrk : rest.length = c2 := by omega
          go_wp2_with fail
          go_roundw
          case rel =>
            have hrel := REL.out (some ⟨g0, o0, none⟩) 0 (by omega) (.inl (by omega)) (fun e => rfl)
            rwa [show rest.length - c2 = 0 by omega] at hrel
          case measure => simp only [Mm.sliceN]; omega
        · go_wp2_with fail
          go_roundw
          case rel => exact REL.out _ _ (by omega) (.inr rfl) (fun e => by cases e)
          case measure => simp only [Mm.sliceN]; omega
end Go.Proofs.YtakldjdohgmeiaaDoor
