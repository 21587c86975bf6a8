/- A parser's Feed. Conditions stand in each law. bytes.IndexAny(b, "\r\n") at every row of bytes. Conditions stand in each law. bytes.IndexAny(b, "\r\n") at every row of bytes: the whole. Conditions stand in each law. reply's lay of a bulk, and of an array of bulks. Conditions stand in each law. reply's lay of an array of bulks; Bulks; Request. Conditions stand in each law. Conditions stand in each law. -/
import Derived.Test.YtakldjdohgmeiaaDoorBuReplyCommands8
import Derived.Laws.AppendOwnNone
import Derived.Test.YtakldjdohgmeiaaDoorBuReplyCommands5
import Derived.Test.YtakldjdohgmeiaaDoorBuReplyCommands7
import Derived.Lib.IndexEntry
import Derived.Lib.DecodeN
import Derived.Test.YtakldjdohgmeiaaDoorBuReplyCommands4
import Derived.Lib.AppendStr
namespace Go.Proofs.YtakldjdohgmeiaaDoor
open Go.RowKit
set_option maxRecDepth 20000

namespace Pl
def feedA (st : Pst) (buf b : List UInt8) : Pst × List UInt8 :=
  if (feedM ((buf ++ b).length + 1) st (buf ++ b)).1.err = true then ({ (feedM ((buf ++ b).length + 1) st (buf ++ b)).1 with used := 0, words := [] }, []) else feedM ((buf ++ b).length + 1) st (buf ++ b)
theorem feedM_err {f : Nat} {st : Pst} {l : List UInt8} (h : st.err = true) : feedM (f + 1) st l = (st, l) := by unfold feedM; rw [if_pos h]
theorem feedM_stop {f : Nat} {st : Pst} {l : List UInt8} (h : st.err = false) (hn : (partM st l).1 = 0) : feedM (f + 1) st l = ((partM st l).2, l) := by unfold feedM; rw [if_neg (by rw [h]; simp), if_pos hn]
theorem feedM_go {f : Nat} {st : Pst} {l : List UInt8} (h : st.err = false) (hn : (partM st l).1 ≠ 0) : feedM (f + 1) st l = feedM f (partM st l).2 (l.drop (partM st l).1) := by
  conv => lhs; unfold feedM
  rw [if_neg (by rw [h]; simp), if_neg hn]
theorem feedA_err {st st' : Pst} {buf b T r : List UInt8} (h : buf ++ b = T) (hf : feedM (T.length + 1) st T = (st', r)) (he : st'.err = true) : feedA st buf b = ({ st' with used := 0, words := [] }, []) := by
  unfold feedA
  rw [h, hf]
  exact if_pos he
theorem feedA_ok {st st' : Pst} {buf b T r : List UInt8} (h : buf ++ b = T) (hf : feedM (T.length + 1) st T = (st', r)) (he : st'.err = false) : feedA st buf b = (st', r) := by
  unfold feedA
  rw [h, hf]
  exact if_neg (by rw [he]; simp)
end Pl

namespace Mm
open Pl
/-- a slice of bytes that came in -/
def Bs (w : World) (v : Value) (l : List UInt8) : Prop := ∃ a c, v = .slice a l.length c ∧ l.length ≤ c ∧ (a = none → c = 0) ∧ (0 < l.length → ∃ g o, a = some ⟨g, o, none⟩ ∧ BytesAt w g o l)
theorem Bs.rest {w : World} {v : Value} {l : List UInt8} (h : Bs w v l) : Rest w v l := by
  obtain ⟨a, c, h1, h2, _, h4⟩ := h
  exact ⟨a, c, h1, h2, h4⟩
theorem OwnB.bs {w : World} {b : Nat} {v : Value} {l : List UInt8} (h : OwnB w b v l) : Bs w v l := by
  obtain ⟨a, c, rfl, h0 | ⟨g, rfl, _, hg, hle⟩⟩ := h.val
  · exact ⟨_, _, rfl, by omega, fun _ => h0.2.2, fun h => by omega⟩
  · exact ⟨_, _, rfl, hle, fun e => (by cases e), fun _ => ⟨g, 0, rfl, h.bytesAt⟩⟩
theorem Bs.keep {w w' : World} {v : Value} {l : List UInt8} (h : Bs w v l) (hb : ∀ a n c g o, v = .slice a n c → a = some ⟨g, o, none⟩ → 0 < n → g < w.heap.size → w'.heap[g]? = w.heap[g]?) : Bs w' v l := by
  obtain ⟨a, c, h1, h2, h3, h4⟩ := h
  refine ⟨a, c, h1, h2, h3, fun hl => ?_⟩
  obtain ⟨g, o, e, hm⟩ := h4 hl
  exact ⟨g, o, e, hm.keep (hb a _ c g o h1 e hl (hm.lt hl))⟩
/-- 'append(s, b...)' -/
theorem wp_appW {ops : Array Oper} {rest : List Oper} {o : Oper} {a : Act} {Q : Exit → Act → World → Prop} (w : World) (hgd : o.guard = none) (x y : Operand)
    (ho : o.op = .call { callee := .builtin .append, args := #[x, y], argTypes := #[24, 24] })
    (base : Nat) (v : Value) (l : List UInt8) (hx : a.eval x = v) (h : OwnB w base v l) (vy : Value) (m : List UInt8) (hy : a.eval y = vy) (hm : Bs w vy m)
    (hl : l.length + m.length ≤ 140737488355328) (hbase : base ≤ w.heap.size)
    (hK : ∀ v' w', OwnB w' base v' (l ++ m) → w.grownBy w' v.ownBlock → (v'.ownBlock = v.ownBlock ∨ v'.ownBlock = some w.heap.size) → wpList Tryd.prog ops Q rest (a.put o.dst v') w') :
    wpList Tryd.prog ops Q (o :: rest) a w := by
  obtain ⟨i0, hi, hz0, hz1, hz2⟩ := info_parts Tryd.info_u8
  obtain ⟨p, c, rfl, hc, hn, hb⟩ := hm
  have hlen : (bytesV m).length = m.length := by simp [bytesV]
  cases p with
  | none =>
    obtain rfl := hn rfl
    have h0 : m.length = 0 := by omega
    obtain rfl : m = [] := List.eq_nil_of_length_eq_zero h0
    refine wpList_append_own_none hgd x y 24 ho base 5 i0 1 Tryd.underlying24 hi v l.length (bytesV l) hx h hy ?_
    exact hK v w (by rw [List.append_nil]; exact h) ⟨rfl, rfl, rfl, Nat.le_refl _, fun _ _ _ => rfl⟩ (.inl rfl)
  | some ad =>
    refine wpList_append_own_at _ hgd x y 24 ho base 5 i0 (.int .u8 0) 1 1 Tryd.underlying24 hi hz0 hz1 hz2 rfl (by decide) v l.length (bytesV l) hx h ad m.length c (bytesV m) hy (by rw [hlen]; omega) ?_ (bytesV_one m) ?_ (by omega) hbase ?_
    · intro j u hj
      have hj' : j < m.length := by
        have := (List.getElem?_eq_some_iff.1 hj).1
        simpa [bytesV] using this
      obtain ⟨g, off, e, hm⟩ := hb (by omega)
      injection e with e
      subst e
      have e : (⟨g, off, none⟩ : Addr).add j = ⟨g, off + j, none⟩ := by unfold Addr.add; split <;> simp_all
      rw [e, hm j hj']
      simp only [bytesV, List.getElem?_map, List.getElem?_eq_getElem hj', Option.map_some, Option.some.injEq] at hj
      rw [← hj]
      unfold at_ byteV
      rw [List.getD_eq_getElem?_getD, List.getElem?_eq_getElem hj']
      rfl
    · unfold maxLen; omega
    · intro v' w' h1 h2 _ h4
      refine hK v' w' ?_ h2 h4
      unfold OwnB
      rw [bytesV_append, List.length_append]
      exact h1
theorem PQ.lt {w : World} {p : Nat} {bv : Value} {st : Pst} {F : Nat → Prop} (h : PQ w p bv st F) (g : Nat) (hg : F g) : p ≤ g ∧ g < w.heap.size := by
  obtain ⟨wv, rv, ev, rows, h, rfl⟩ := h
  rcases hg with rfl | hg | hg | ⟨v, hv, hg⟩
  · exact ⟨Nat.le_refl _, h.lt⟩
  · have := h.2.1.lt g hg; omega
  · have := h.2.2.1.lt g hg; omega
  · obtain ⟨l, hl⟩ := h.2.2.2.1.row hv
    have := hl.lt g hg
    omega
theorem PQ.own {w : World} {p : Nat} {bv : Value} {st : Pst} {F : Nat → Prop} (h : PQ w p bv st F) : F p := by
  obtain ⟨wv, rv, ev, rows, h, rfl⟩ := h
  exact .inl rfl
theorem PV.keepF {w w' : World} {p : Nat} {bv wv rv ev : Value} {st : Pst} {rows : List Value} (h : PV w p bv st wv rv ev rows) (hb : ∀ g, g < w.heap.size → foot p wv rv rows g → w'.heap[g]? = w.heap[g]?) : PV w' p bv st wv rv ev rows :=
  ⟨(hb p h.lt (.inl rfl)).trans h.1, h.2.1.keep (fun g hg => hb g (h.2.1.lt g hg).2 (.inr (.inl hg))), ownsRow_keep h.2.2.1 (fun g hg => hb g (h.2.2.1.lt g hg).2 (.inr (.inr (.inl hg)))), h.2.2.2.1.keep (fun v hv g hg => by
    obtain ⟨l, ho⟩ := h.2.2.2.1.row hv
    exact hb g (ho.lt g hg).2 (.inr (.inr (.inr ⟨v, hv, hg⟩)))), h.2.2.2.2⟩
theorem Chg.or {w w' : World} {F F' : Nat → Prop} (h : Chg w F w' F') (v : Value) : Chg w (fun g => F g ∨ v.ownBlock = some g) w' (fun g => F' g ∨ v.ownBlock = some g) :=
  ⟨h.os, h.tape, h.output, h.size, fun g hg hn => h.block g hg (fun hf => hn (.inl hf)), fun g hg => by
    rcases hg with hg | hg
    · rcases h.foot g hg with h | h
      · exact .inl (.inl h)
      · exact .inr h
    · exact .inl (.inr hg)⟩
/-- the stretch lies in the row's block -/
def InB (rv v : Value) : Prop := ∀ a n c g o, rv = .slice a n c → a = some ⟨g, o, none⟩ → 0 < n → v.ownBlock = some g
theorem OwnB.inB {w : World} {b : Nat} {v : Value} {l : List UInt8} (h : OwnB w b v l) : InB v v := by
  intro a n c g o e ha hn
  subst e ha
  rcases h.2 with ⟨e, h0⟩ | ⟨g', cap, cur, e, _⟩
  · injection e with e1 e2
    cases e1
  · injection e with e1 e2
    injection e1 with e1
    injection e1 with e1 e3
    subst e1 e3
    rfl
def sliceN : Value → Nat | .slice _ n _ => n | _ => 0
/-- a parser, whose bytes are held in blocks of its own; G: what it may change -/
def PB (w : World) (p : Nat) (buf : List UInt8) (st : Pst) (G : Nat → Prop) : Prop :=
  ∃ bv F, PQ w p bv st F ∧ OwnB w (p + 1) bv buf ∧ (∀ g, bv.ownBlock = some g → ¬ F g) ∧ ∀ g, G g ↔ F g ∨ bv.ownBlock = some g
end Mm

set_option maxHeartbeats 8000000 in
theorem feed_walk (p : Nat) (v : Value) (b buf : List UInt8) (st : Pl.Pst) (G : Nat → Prop) (W w : World) (hpW : W.heap.size ≤ p) (hR : Mm.RErr W) (hE : Mm.Errs W) (hI : Mm.InlE W) (hW : Below W.heap.size W w) (hl : b.length ≤ 16777216) (hbl : buf.length ≤ 16777216) (hv : Mm.Bs w v b)
    (hp : Mm.PB w p buf st G) (he : st.err = false) (hok : Pl.okP st) (U : Nat) (hb : Pl.bnd st U) (hU : U + buf.length + b.length ≤ 1099511627776) :
    Calls Tryd.prog 41 #[.pointer (some ⟨p, 0, none⟩), v] w fun e w' => e = .returned (.int .i64 0) ∧ ∃ G', Mm.PB w' p (Pl.feedA st buf b).2 (Pl.feedA st buf b).1 G' ∧ Mm.Chg w G w' G' := by
  obtain ⟨bv, F, hq, ho, hd, hG⟩ := hp
  obtain ⟨wv, rv, ev, rows, hpv, hF⟩ := hq
  obtain ⟨a, c, rfl, hc, hn, hbytes⟩ := hv
  have hev : ev = .nilIface := by
    rcases hpv.2.2.2.2.2.2 with ⟨e, _⟩ | ⟨_, e⟩
    · rw [he] at e; cases e
    · exact e
  subst hev
  have HBs : Hid (Mm.Bs w (.slice a b.length c) b) := ⟨a, c, rfl, hc, hn, hbytes⟩
  have c7 := hpv.cell 7 .nilIface rfl
  have c0 := hpv.cell 0 bv rfl
  have HV := Pl.hid hpv
  have HF := Pl.hid hF
  have HO := Pl.hid ho
  have HD := Pl.hid hd
  have HGG := Pl.hid hG
  have HR := Pl.hid hR
  have HE := Pl.hid hE
  have HI := Pl.hid hI
  have HW := Pl.hid hW
  have HPW := Pl.hid hpW
  have hpl := hpv.lt
  have HPL := Pl.hid hpl
  have HB := Pl.hid hb
  have HOK := Pl.hid hok
  have He := Pl.hid he
  have HLEN : Hid (buf.length + b.length ≤ 140737488355328) := by show _ ≤ _; omega
  clear hpv hF ho hd hG hR hE hI hW hpW hbytes hc hn hb hok he
  have hTl : (buf ++ b).length = buf.length + b.length := List.length_append
  obtain ⟨T, hT⟩ : ∃ T, buf ++ b = T := ⟨_, rfl⟩
  rw [hT] at hTl
  have HT := Pl.hid hT
  have HTL := Pl.hid hTl
  clear hT hTl
  go_enter Tryd.func41, Tryd.ntmps41
  go_wp2_with (at_builtin; refine Mm.wp_appW w rfl _ _ (by rfl) (p + 1) bv buf (by rfl) HO.out _ b (by rfl) HBs.out HLEN.out hpl ?_; intro v1 w1 ho1 hg1 hat1; refine Hid.out ?_)
  refine Pl.hid ?_
  rw [HT.out] at ho1
  obtain ⟨a1, c1, rfl, hv1⟩ := ho1.val
  have HF1 : Hid (∀ g, (Value.slice a1 T.length c1).ownBlock = some g → ¬ F g) := fun g hg hf => by
    rcases hat1 with e | e
    · exact HD.out g (by rw [← e]; exact hg) hf
    · rw [e] at hg
      injection hg with hg
      have := (Mm.PQ.lt ⟨wv, rv, _, rows, HV.out, HF.out⟩ g hf).2
      omega
  have HV1 : Hid (Mm.PV w1 p bv st wv rv .nilIface rows) := HV.out.keepF fun g hgl hf => hg1.block g hgl (fun e => HD.out g e.symm (by rw [HF.out]; exact hf))
  have HO1 := Pl.hid ho1
  have HG1 := Pl.hid hg1
  have HAT := Pl.hid hat1
  have hpl1 := HV1.out.lt
  clear ho1 hg1 hat1 hv1 c7 c0
  go_wp2_with (first | (refine Mm.wp_storeF _ rfl 24 _ _ (by rfl) (by kernel_rfl) p 0 90 (Mm.cellsP bv wv rv .nilIface st) _ HV1.out.1 (by rfl) (by rfl) (by simp [Mm.cellsP]) rfl rfl ?_; intro w2 h2 hz2 hg2; refine Hid.out ?_))
  refine Pl.hid ?_
  have HV2 : Hid (Mm.PV w2 p (.slice a1 T.length c1) st wv rv .nilIface rows) := HV1.out.store hg2 h2 rfl rfl HV1.out.2.2.2.2.2.2
  have HO2 : Hid (Mm.OwnB w2 (p + 1) (.slice a1 T.length c1) T) := HO1.out.keep fun g hg => hg2.block g (HO1.out.lt g hg).2 (fun e => by injection e with e; have := (HO1.out.lt g hg).1; omega)
  have HC2 : Hid (Mm.Chg w G w2 (fun g => F g ∨ (Value.slice a1 T.length c1).ownBlock = some g)) := by
    have hz := HG1.out.size
    refine ⟨hg2.os.trans HG1.out.os, hg2.tape.trans HG1.out.tape, hg2.output.trans HG1.out.output, Nat.le_trans hz hg2.size, fun g hgl hng => ?_, fun g hg => ?_⟩
    · rw [hg2.block g (by omega) (fun e => by injection e with e; exact hng ((HGG.out g).2 (.inl (by rw [HF.out]; exact .inl e)))), HG1.out.block g hgl (fun e => hng ((HGG.out g).2 (.inr e.symm)))]
    · rcases hg with hg | hg
      · exact .inl ((HGG.out g).2 (.inl hg))
      · rcases HAT.out with e | e
        · exact .inl ((HGG.out g).2 (.inr (by rw [← e]; exact hg)))
        · rw [e] at hg
          injection hg with hg
          exact .inr (by omega)
  have HW2 : Hid (Below W.heap.size W w2) := HC2.out.under HW.out fun g hg => by
    rcases (HGG.out g).1 hg with hg | hg
    · have := (Mm.PQ.lt ⟨wv, rv, _, rows, HV.out, HF.out⟩ g hg).1
      have := HPW.out
      omega
    · have := (HO.out.lt g hg).1
      have := HPW.out
      omega
  have c0 := HV2.out.cell 0 (.slice a1 T.length c1) rfl
  clear h2 hz2 hg2
  go_wp2_with fail
  clear c0
  go_loopw [5, 6] (fun rv' _ wr => ∃ (rest : List UInt8) (st1 : Pl.Pst) (F1 : Nat → Prop) (f U1 : Nat) (a2 : Option Addr) (c2 : Nat), rv' = .slice a2 rest.length c2 ∧ Hid (Mm.Bs wr (.slice a2 rest.length c2) rest ∧ Mm.InB (.slice a2 rest.length c2) (.slice a1 T.length c1)) ∧ rest.length ≤ T.length ∧
      Hid (Mm.PQ wr p (.slice a1 T.length c1) st1 F1) ∧ Hid (Mm.Chg w2 F wr F1) ∧ Hid (Mm.OwnB wr (p + 1) (.slice a1 T.length c1) T) ∧ Hid (∀ g, (Value.slice a1 T.length c1).ownBlock = some g → ¬ F1 g) ∧
      Hid (Pl.feedM f st1 rest = Pl.feedM (T.length + 1) st T) ∧ Hid (rest.length < f) ∧ Hid (Pl.okP st1) ∧ Hid (Pl.bnd st1 U1) ∧ U1 + rest.length ≤ U + T.length ∧ Hid (rest.length = T.length → rest = T)) (fun rv' _ _ => Mm.sliceN rv')
  case atStart => exact ⟨T, st, F, T.length + 1, U, a1, c1, rfl, ⟨HO2.out.bs, HO2.out.inB⟩, Nat.le_refl _, ⟨wv, rv, .nilIface, rows, HV2.out, HF.out⟩, Mm.Chg.refl _ _, HO2.out, HF1.out, rfl, Nat.lt_succ_self _, HOK.out, HB.out, Nat.le_refl _, fun _ => rfl⟩
  case round =>
    obtain ⟨rest, st1, F1, f, U1, a2, c2, rfl, HBR, hrl, HQ, HCH, HOW, HDJ, HFM, HLF, HOK1, HB1, hU1, HEQ⟩ := hrel
    obtain ⟨f, rfl⟩ : ∃ f', f = f' + 1 := ⟨f - 1, by have := HLF.out; omega⟩
    have HWr : Hid (Below W.heap.size W wr) := HCH.out.under HW2.out fun g hg => by
      have := (Mm.PQ.lt ⟨wv, rv, _, rows, HV2.out, HF.out⟩ g hg).1
      have := HPW.out
      omega
    obtain ⟨wv1, rv1, ev1, rows1, hpv1, hF1⟩ := HQ.out
    cases he1 : st1.err with
    | true =>
      obtain ⟨T3, x3, rfl⟩ : ∃ T x, ev1 = .iface T x := by
        rcases hpv1.2.2.2.2.2.2 with ⟨_, h⟩ | ⟨h, _⟩
        · exact h
        · rw [he1] at h; cases h
      have HERR := Pl.hid he1
      have HFMX : Hid (Pl.feedM (T.length + 1) st T = (st1, rest)) := HFM.out.symm.trans (Pl.feedM_err he1)
      have c7 := hpv1.cell 7 (.iface T3 x3) rfl
      have HVX := Pl.hid hpv1
      have HFX := Pl.hid hF1
      have HCX := HCH
      have HOX := HOW
      have HDX := HDJ
      have HRX : Hid (Mm.Bs wr (.slice a2 rest.length c2) rest) := HBR.out.1
      clear hpv1 hF1 he1
      have c0 := HVX.out.cell 0 (.slice a1 T.length c1) rfl
      have hplX := HVX.out.lt
      have hl47 : ([] : List UInt8).length + rest.length ≤ 140737488355328 := by have := HTL.out; simp; omega
      have HPQX : Hid (Mm.PQ wr p (.slice a1 T.length c1) st1 F1) := ⟨_, _, _, _, HVX.out, HFX.out⟩
      have HGX : Hid (Mm.Chg w G wr (fun g => F1 g ∨ (Value.slice a1 T.length c1).ownBlock = some g)) := HC2.out.trans (HCX.out.or _)
      rcases Nat.lt_or_ge rest.length T.length with hlt | hge
      · go_wp2_with (first
          | (at_builtin; refine Mm.wp_appW wr rfl _ _ (by rfl) (p + 1) (.slice none 0 0) [] (by rfl) (Mm.ownB_nil _ _) _ rest (by rfl) HRX.out hl47 hplX ?_; intro v5 w5 ho5 hg5 hat5; obtain ⟨a5, k5, rfl, _⟩ := ho5.val; have HO5 := Pl.hid ho5; have HG5 := Pl.hid hg5; have HAT5 := Pl.hid hat5; have HV5 := Pl.hid (HVX.out.below ((Below.refl _ _).grown HG5.out (Nat.le_refl _) (fun k hk => by cases hk))); clear ho5 hg5 hat5)
          | (refine Mm.wp_storeF _ rfl 24 _ _ (by rfl) (by kernel_rfl) p 0 90 _ _ H6.out (by rfl) (by rfl) (by simp [Mm.cellsP]) rfl rfl ?_; intro w7 h7 hz7 hg7; have H7 := Pl.hid h7; have HG7 := Pl.hid hg7; clear h7 hz7 hg7; clear c7)
          | (refine Mm.wp_storeF _ rfl 24 _ _ (by rfl) (by kernel_rfl) p 0 90 (Mm.cellsP (.slice a1 T.length c1) wv1 rv1 (Value.iface T3 x3) st1) _ HV5.out.1 (by rfl) (by rfl) (by simp [Mm.cellsP]) rfl rfl ?_; intro w6 h6 hz6 hg6; have H6 := Pl.hid h6; have HG6 := Pl.hid hg6; clear h6 hz6 hg6; have c7 := Mm.cellOf (i := 7) (v := (Value.iface T3 x3)) H6.out rfl)
          | (refine Mm.wp_storeF _ rfl 3 _ _ (by rfl) (by kernel_rfl) p 1 90 _ _ H7.out (by rfl) (by rfl) (by simp [Mm.cellsP]) rfl rfl ?_; intro w8 h8 hz8 hg8; have H8 := Pl.hid h8; have HG8 := Pl.hid hg8; clear h8 hz8 hg8)
          | (refine Mm.wp_storeF _ rfl 22 _ _ (by rfl) (by kernel_rfl) p 2 90 _ _ H8.out (by rfl) (by rfl) (by simp [Mm.cellsP]) rfl rfl ?_; intro w9 h9 hz9 hg9; have H9 := Pl.hid h9; have HG9 := Pl.hid hg9; clear h9 hz9 hg9))
        go_ret
        rw [Pl.feedA_err HT.out HFMX.out HERR.out]
        have hgz := Mm.gTrans HG6.out (Mm.gTrans HG7.out (Mm.gTrans HG8.out HG9.out))
        have hvz := HV5.out
        have hbz : Below wr.heap.size wr w5 := (Below.refl _ _).grown HG5.out (Nat.le_refl _) (fun k hk => by cases hk)
        refine ⟨rfl, _, ⟨.slice none 0 0, Mm.foot p (.slice none 0 0) rv1 rows1, ⟨_, _, _, _, hvz.clear hgz H9.out rfl rfl ?_, rfl⟩, Mm.ownB_nil _ _, fun g hg => (by cases hg), fun g => Iff.rfl⟩, ?_⟩
        · first | exact HVX.out.2.2.2.2.2.2 | exact .inl ⟨rfl, _, _, rfl⟩ | exact .inl ⟨HERR.out, _, _, rfl⟩
        · refine HGX.out.trans ((Mm.Chg.below hbz).trans (Mm.Chg.grown hgz (fun g e => by injection e with e; exact .inl (by rw [HFX.out]; exact .inl e.symm)) (fun g hg => ?_)))
          rcases hg with (h | h | h) | h
          · exact .inl (.inl (by rw [HFX.out]; exact .inl h))
          · cases h
          · exact .inl (.inl (by rw [HFX.out]; exact .inr (.inr h)))
          · cases h
      · obtain rfl : rest = T := HEQ.out (by omega)
        go_wp2_with (first
          | (refine Mm.wp_storeF _ rfl 24 _ _ (by rfl) (by kernel_rfl) p 0 90 (Mm.cellsP (.slice a1 rest.length c1) wv1 rv1 (Value.iface T3 x3) st1) _ HVX.out.1 (by rfl) (by rfl) (by simp [Mm.cellsP]) rfl rfl ?_; intro w7 h7 hz7 hg7; have H7 := Pl.hid h7; have HG7 := Pl.hid hg7; clear h7 hz7 hg7; clear c7)
          | (refine Mm.wp_storeF _ rfl 3 _ _ (by rfl) (by kernel_rfl) p 1 90 _ _ H7.out (by rfl) (by rfl) (by simp [Mm.cellsP]) rfl rfl ?_; intro w8 h8 hz8 hg8; have H8 := Pl.hid h8; have HG8 := Pl.hid hg8; clear h8 hz8 hg8)
          | (refine Mm.wp_storeF _ rfl 22 _ _ (by rfl) (by kernel_rfl) p 2 90 _ _ H8.out (by rfl) (by rfl) (by simp [Mm.cellsP]) rfl rfl ?_; intro w9 h9 hz9 hg9; have H9 := Pl.hid h9; have HG9 := Pl.hid hg9; clear h9 hz9 hg9))
        go_ret
        rw [Pl.feedA_err HT.out HFMX.out HERR.out]
        have hgz := Mm.gTrans HG7.out (Mm.gTrans HG8.out HG9.out)
        refine ⟨rfl, _, ⟨.slice none 0 0, Mm.foot p (.slice none 0 0) rv1 rows1, ⟨_, _, _, _, HVX.out.clear hgz H9.out rfl rfl ?_, rfl⟩, Mm.ownB_nil _ _, fun g hg => (by cases hg), fun g => Iff.rfl⟩, ?_⟩
        · first | exact HVX.out.2.2.2.2.2.2 | exact .inl ⟨rfl, _, _, rfl⟩ | exact .inl ⟨HERR.out, _, _, rfl⟩
        · refine HGX.out.trans (Mm.Chg.grown hgz (fun g e => by injection e with e; exact .inl (by rw [HFX.out]; exact .inl e.symm)) (fun g hg => ?_))
          rcases hg with (h | h | h) | h
          · exact .inl (.inl (by rw [HFX.out]; exact .inl h))
          · cases h
          · exact .inl (.inl (by rw [HFX.out]; exact .inr (.inr h)))
          · cases h
    | false =>
      obtain rfl : ev1 = .nilIface := by
        rcases hpv1.2.2.2.2.2.2 with ⟨h, _⟩ | ⟨_, h⟩
        · rw [he1] at h; cases h
        · exact h
      have c7 := hpv1.cell 7 .nilIface rfl
      have hpo := Pl.part_ok (l := rest) HOK1.out he1
      have HPC := Pl.hid (part_walk p (.slice a2 rest.length c2) rest (.slice a1 T.length c1) st1 F1 W wr HPW.out HR.out HE.out HI.out HWr.out (by have := HTL.out; omega) HBR.out.1.rest HQ.out he1 HOK1.out U1 HB1.out (by have := HTL.out; omega))
      have HSTOP := Pl.hid (fun h => Pl.feedM_stop (f := f) (l := rest) he1 h)
      have HGO := Pl.hid (fun h => Pl.feedM_go (f := f) (l := rest) he1 h)
      obtain ⟨k, hk⟩ : ∃ k, (Pl.partM st1 rest).1 = k := ⟨_, rfl⟩
      obtain ⟨st2, hst2⟩ : ∃ st2, (Pl.partM st1 rest).2 = st2 := ⟨_, rfl⟩
      rw [hk, hst2] at HPC hpo HSTOP HGO
      have HOK2 := Pl.hid hpo.1
      have HB2 := Pl.hid (hpo.2.2 U1 HB1.out)
      have hkl := hpo.2.1
      clear hk hst2 hpo hpv1 hF1 he1
      go_wp2_with fail
      refine HPC.out.mono ?_
      rintro e w3 ⟨rfl, F2, hq2, hch2⟩
      have hc3 := HCH.out.trans hch2
      have HCX := Pl.hid hc3
      have HBR3 : Hid (Mm.Bs w3 (.slice a2 rest.length c2) rest) := HBR.out.1.keep fun a n c g o e1 e2 e3 e4 => hch2.block g e4 (HDJ.out g (HBR.out.2 a n c g o e1 e2 e3))
      have HOX : Hid (Mm.OwnB w3 (p + 1) (.slice a1 T.length c1) T) := HOW.out.keep fun g hg => hch2.block g (HOW.out.lt g hg).2 (HDJ.out g hg)
      have HDX : Hid (∀ g, (Value.slice a1 T.length c1).ownBlock = some g → ¬ F2 g) := fun g hg hf => by
        rcases hch2.foot g hf with h | h
        · exact HDJ.out g hg h
        · have := (HOW.out.lt g hg).2
          omega
      have HQ2 := Pl.hid hq2
      clear c7 hch2 hc3 hq2
      rcases Nat.eq_zero_or_pos k with hk0 | hk0
      · subst hk0
        have HFMX : Hid (Pl.feedM (T.length + 1) st T = (st2, rest)) := HFM.out.symm.trans (HSTOP.out rfl)
        have HRX := HBR3
        obtain ⟨wvX, rvX, evX, rowsX, hpvX, hFX⟩ := HQ2.out
        have HVX := Pl.hid hpvX
        have HFX := Pl.hid hFX
        clear hpvX hFX
        have c7 := HVX.out.cell 7 evX rfl
        cases he2 : st2.err with
        | true =>
          have HERR := Pl.hid he2
          obtain ⟨T3, x3, rfl⟩ : ∃ T x, evX = .iface T x := by
            rcases HVX.out.2.2.2.2.2.2 with ⟨_, h⟩ | ⟨h, _⟩
            · exact h
            · rw [he2] at h; cases h
          clear he2
          have c0 := HVX.out.cell 0 (.slice a1 T.length c1) rfl
          have hplX := HVX.out.lt
          have hl47 : ([] : List UInt8).length + rest.length ≤ 140737488355328 := by have := HTL.out; simp; omega
          have HPQX : Hid (Mm.PQ w3 p (.slice a1 T.length c1) st2 F2) := ⟨_, _, _, _, HVX.out, HFX.out⟩
          have HGX : Hid (Mm.Chg w G w3 (fun g => F2 g ∨ (Value.slice a1 T.length c1).ownBlock = some g)) := HC2.out.trans (HCX.out.or _)
          rcases Nat.lt_or_ge rest.length T.length with hlt | hge
          · go_wp2_with (first
              | (at_builtin; refine Mm.wp_appW w3 rfl _ _ (by rfl) (p + 1) (.slice none 0 0) [] (by rfl) (Mm.ownB_nil _ _) _ rest (by rfl) HRX.out hl47 hplX ?_; intro v5 w5 ho5 hg5 hat5; obtain ⟨a5, k5, rfl, _⟩ := ho5.val; have HO5 := Pl.hid ho5; have HG5 := Pl.hid hg5; have HAT5 := Pl.hid hat5; have HV5 := Pl.hid (HVX.out.below ((Below.refl _ _).grown HG5.out (Nat.le_refl _) (fun k hk => by cases hk))); clear ho5 hg5 hat5)
              | (refine Mm.wp_storeF _ rfl 24 _ _ (by rfl) (by kernel_rfl) p 0 90 _ _ H6.out (by rfl) (by rfl) (by simp [Mm.cellsP]) rfl rfl ?_; intro w7 h7 hz7 hg7; have H7 := Pl.hid h7; have HG7 := Pl.hid hg7; clear h7 hz7 hg7; clear c7)
              | (refine Mm.wp_storeF _ rfl 24 _ _ (by rfl) (by kernel_rfl) p 0 90 (Mm.cellsP (.slice a1 T.length c1) wvX rvX (Value.iface T3 x3) st2) _ HV5.out.1 (by rfl) (by rfl) (by simp [Mm.cellsP]) rfl rfl ?_; intro w6 h6 hz6 hg6; have H6 := Pl.hid h6; have HG6 := Pl.hid hg6; clear h6 hz6 hg6; have c7 := Mm.cellOf (i := 7) (v := (Value.iface T3 x3)) H6.out rfl)
              | (refine Mm.wp_storeF _ rfl 3 _ _ (by rfl) (by kernel_rfl) p 1 90 _ _ H7.out (by rfl) (by rfl) (by simp [Mm.cellsP]) rfl rfl ?_; intro w8 h8 hz8 hg8; have H8 := Pl.hid h8; have HG8 := Pl.hid hg8; clear h8 hz8 hg8)
              | (refine Mm.wp_storeF _ rfl 22 _ _ (by rfl) (by kernel_rfl) p 2 90 _ _ H8.out (by rfl) (by rfl) (by simp [Mm.cellsP]) rfl rfl ?_; intro w9 h9 hz9 hg9; have H9 := Pl.hid h9; have HG9 := Pl.hid hg9; clear h9 hz9 hg9))
            go_ret
            rw [Pl.feedA_err HT.out HFMX.out HERR.out]
            have hgz := Mm.gTrans HG6.out (Mm.gTrans HG7.out (Mm.gTrans HG8.out HG9.out))
            have hvz := HV5.out
            have hbz : Below w3.heap.size w3 w5 := (Below.refl _ _).grown HG5.out (Nat.le_refl _) (fun k hk => by cases hk)
            refine ⟨rfl, _, ⟨.slice none 0 0, Mm.foot p (.slice none 0 0) rvX rowsX, ⟨_, _, _, _, hvz.clear hgz H9.out rfl rfl ?_, rfl⟩, Mm.ownB_nil _ _, fun g hg => (by cases hg), fun g => Iff.rfl⟩, ?_⟩
            · first | exact HVX.out.2.2.2.2.2.2 | exact .inl ⟨rfl, _, _, rfl⟩ | exact .inl ⟨HERR.out, _, _, rfl⟩
            · refine HGX.out.trans ((Mm.Chg.below hbz).trans (Mm.Chg.grown hgz (fun g e => by injection e with e; exact .inl (by rw [HFX.out]; exact .inl e.symm)) (fun g hg => ?_)))
              rcases hg with (h | h | h) | h
              · exact .inl (.inl (by rw [HFX.out]; exact .inl h))
              · cases h
              · exact .inl (.inl (by rw [HFX.out]; exact .inr (.inr h)))
              · cases h
          · obtain rfl : rest = T := HEQ.out (by omega)
            go_wp2_with (first
              | (refine Mm.wp_storeF _ rfl 24 _ _ (by rfl) (by kernel_rfl) p 0 90 (Mm.cellsP (.slice a1 rest.length c1) wvX rvX (Value.iface T3 x3) st2) _ HVX.out.1 (by rfl) (by rfl) (by simp [Mm.cellsP]) rfl rfl ?_; intro w7 h7 hz7 hg7; have H7 := Pl.hid h7; have HG7 := Pl.hid hg7; clear h7 hz7 hg7; clear c7)
              | (refine Mm.wp_storeF _ rfl 3 _ _ (by rfl) (by kernel_rfl) p 1 90 _ _ H7.out (by rfl) (by rfl) (by simp [Mm.cellsP]) rfl rfl ?_; intro w8 h8 hz8 hg8; have H8 := Pl.hid h8; have HG8 := Pl.hid hg8; clear h8 hz8 hg8)
              | (refine Mm.wp_storeF _ rfl 22 _ _ (by rfl) (by kernel_rfl) p 2 90 _ _ H8.out (by rfl) (by rfl) (by simp [Mm.cellsP]) rfl rfl ?_; intro w9 h9 hz9 hg9; have H9 := Pl.hid h9; have HG9 := Pl.hid hg9; clear h9 hz9 hg9))
            go_ret
            rw [Pl.feedA_err HT.out HFMX.out HERR.out]
            have hgz := Mm.gTrans HG7.out (Mm.gTrans HG8.out HG9.out)
            refine ⟨rfl, _, ⟨.slice none 0 0, Mm.foot p (.slice none 0 0) rvX rowsX, ⟨_, _, _, _, HVX.out.clear hgz H9.out rfl rfl ?_, rfl⟩, Mm.ownB_nil _ _, fun g hg => (by cases hg), fun g => Iff.rfl⟩, ?_⟩
            · first | exact HVX.out.2.2.2.2.2.2 | exact .inl ⟨rfl, _, _, rfl⟩ | exact .inl ⟨HERR.out, _, _, rfl⟩
            · refine HGX.out.trans (Mm.Chg.grown hgz (fun g e => by injection e with e; exact .inl (by rw [HFX.out]; exact .inl e.symm)) (fun g hg => ?_))
              rcases hg with (h | h | h) | h
              · exact .inl (.inl (by rw [HFX.out]; exact .inl h))
              · cases h
              · exact .inl (.inl (by rw [HFX.out]; exact .inr (.inr h)))
              · cases h
        | false =>
          have HERR := Pl.hid he2
          obtain rfl : evX = .nilIface := by
            rcases HVX.out.2.2.2.2.2.2 with ⟨h, _⟩ | ⟨_, h⟩
            · rw [he2] at h; cases h
            · exact h
          clear he2
          have c0 := HVX.out.cell 0 (.slice a1 T.length c1) rfl
          have hplX := HVX.out.lt
          have hl47 : ([] : List UInt8).length + rest.length ≤ 140737488355328 := by have := HTL.out; simp; omega
          have HPQX : Hid (Mm.PQ w3 p (.slice a1 T.length c1) st2 F2) := ⟨_, _, _, _, HVX.out, HFX.out⟩
          have HGX : Hid (Mm.Chg w G w3 (fun g => F2 g ∨ (Value.slice a1 T.length c1).ownBlock = some g)) := HC2.out.trans (HCX.out.or _)
          rcases Nat.lt_or_ge rest.length T.length with hlt | hge
          · go_wp2_with (first
              | (at_builtin; refine Mm.wp_appW w3 rfl _ _ (by rfl) (p + 1) (.slice none 0 0) [] (by rfl) (Mm.ownB_nil _ _) _ rest (by rfl) HRX.out hl47 hplX ?_; intro v5 w5 ho5 hg5 hat5; obtain ⟨a5, k5, rfl, _⟩ := ho5.val; have HO5 := Pl.hid ho5; have HG5 := Pl.hid hg5; have HAT5 := Pl.hid hat5; have HV5 := Pl.hid (HVX.out.below ((Below.refl _ _).grown HG5.out (Nat.le_refl _) (fun k hk => by cases hk))); clear ho5 hg5 hat5)
              | (refine Mm.wp_storeF _ rfl 24 _ _ (by rfl) (by kernel_rfl) p 0 90 (Mm.cellsP (.slice a1 T.length c1) wvX rvX Value.nilIface st2) _ HV5.out.1 (by rfl) (by rfl) (by simp [Mm.cellsP]) rfl rfl ?_; intro w6 h6 hz6 hg6; have H6 := Pl.hid h6; have HG6 := Pl.hid hg6; clear h6 hz6 hg6; have c7 := Mm.cellOf (i := 7) (v := Value.nilIface) H6.out rfl))
            go_ret
            rw [Pl.feedA_ok HT.out HFMX.out HERR.out]
            have hbz : Below w3.heap.size w3 w5 := (Below.refl _ _).grown HG5.out (Nat.le_refl _) (fun k hk => by cases hk)
            have hnew : ∀ g, (Value.slice a5 ([] ++ rest).length k5).ownBlock = some g → w3.heap.size ≤ g := fun g hg => by
              rcases HAT5.out with e | e
              · rw [e] at hg; cases hg
              · rw [e] at hg; injection hg with hg; omega
            refine ⟨rfl, _, ⟨_, F2, ⟨wvX, rvX, Value.nilIface, rowsX, HV5.out.store HG6.out H6.out rfl rfl HVX.out.2.2.2.2.2.2, HFX.out⟩, HO5.out.keep (fun g hg => HG6.out.block g (HO5.out.lt g hg).2 (fun e => by injection e with e; have := (HO5.out.lt g hg).1; omega)), fun g hg hf => ?_, fun g => Iff.rfl⟩, ?_⟩
            · have := hnew g hg
              have := (HPQX.out.lt g hf).2
              omega
            · refine HGX.out.trans (Mm.Chg.grown (Mm.gTrans (Mm.gBelow hbz) HG6.out) (fun g e => by injection e with e; exact .inl (by rw [HFX.out]; exact .inl e.symm)) (fun g hg => ?_))
              rcases hg with h | h
              · exact .inl (.inl h)
              · exact .inr (hnew g h)
          · obtain rfl : rest = T := HEQ.out (by omega)
            go_wp2_with fail
            go_ret
            rw [Pl.feedA_ok HT.out HFMX.out HERR.out]
            exact ⟨rfl, _, ⟨_, F2, HPQX.out, HOX.out, HDX.out, fun g => Iff.rfl⟩, HGX.out⟩
      · have hr0 : 0 < rest.length := by omega
        obtain ⟨a', c', e', hc', _, hby⟩ := HBR3.out
        injection e' with e1 e2 e3
        subst e1 e3
        obtain ⟨g0, o0, rfl, hm0⟩ := hby hr0
        have hkz : ((k : Int) == 0) = false := beq_eq_false_iff_ne.2 (by omega)
        have HM0 := Pl.hid hm0
        have HFM2 : Hid (Pl.feedM f st2 (rest.drop k) = Pl.feedM (T.length + 1) st T) := (HGO.out (by omega)).symm.trans HFM.out
        have hdl : (rest.drop k).length = rest.length - k := List.length_drop
        have HDL := Pl.hid hdl
        have HIB := Pl.hid (HBR.out.2 _ _ _ g0 o0 rfl rfl hr0)
        have HDR : Hid (∀ aa cc, rest.length - k ≤ cc → (rest.length - k = 0 ∨ aa = some ⟨g0, o0 + k, none⟩) → (aa = none → cc = 0) → Mm.Bs w3 (.slice aa (rest.drop k).length cc) (rest.drop k) ∧ Mm.InB (.slice aa (rest.drop k).length cc) (.slice a1 T.length c1)) := fun aa cc h1 h2 h3 => by
          refine ⟨⟨aa, cc, rfl, by rw [HDL.out]; exact h1, h3, fun hp => ?_⟩, fun a n c g o e1 e2 e3 => ?_⟩
          · rcases h2 with h2 | h2
            · rw [HDL.out] at hp; omega
            · exact ⟨g0, o0 + k, h2, HM0.out.drop k⟩
          · injection e1 with e1 e4 e5
            rcases h2 with h2 | h2
            · rw [HDL.out] at e4; omega
            · rw [← e1, h2] at e2
              injection e2 with e2
              injection e2 with e2
              subst e2
              exact HIB.out
        have hlf := HLF.out
        have REL : Hid (∀ aa cc, rest.length - k ≤ cc → (rest.length - k = 0 ∨ aa = some ⟨g0, o0 + k, none⟩) → (aa = none → cc = 0) → ∃ (rest' : List UInt8) (st1 : Pl.Pst) (F1 : Nat → Prop) (f U1 : Nat) (a2 : Option Addr) (c2 : Nat), Value.slice aa (rest.length - k) cc = .slice a2 rest'.length c2 ∧ Hid (Mm.Bs w3 (.slice a2 rest'.length c2) rest' ∧ Mm.InB (.slice a2 rest'.length c2) (.slice a1 T.length c1)) ∧ rest'.length ≤ T.length ∧
            Hid (Mm.PQ w3 p (.slice a1 T.length c1) st1 F1) ∧ Hid (Mm.Chg w2 F w3 F1) ∧ Hid (Mm.OwnB w3 (p + 1) (.slice a1 T.length c1) T) ∧ Hid (∀ g, (Value.slice a1 T.length c1).ownBlock = some g → ¬ F1 g) ∧
            Hid (Pl.feedM f st1 rest' = Pl.feedM (T.length + 1) st T) ∧ Hid (rest'.length < f) ∧ Hid (Pl.okP st1) ∧ Hid (Pl.bnd st1 U1) ∧ U1 + rest'.length ≤ U + T.length ∧ Hid (rest'.length = T.length → rest' = T)) := fun aa cc h1 h2 h3 =>
          ⟨rest.drop k, st2, F2, f, U1 + k, aa, cc, by rw [HDL.out], HDR.out aa cc h1 h2 h3, by rw [HDL.out]; omega, HQ2.out, HCX.out, HOX.out, HDX.out, HFM2.out, (by show _ < _; rw [HDL.out]; have := HLF.out; omega), HOK2.out, HB2.out, by rw [HDL.out]; omega, fun e => by rw [HDL.out] at e; omega⟩
        clear hdl hlf hby hm0 HDR
        rcases Decidable.em (c2 = k) with hck | hck
        · subst hck
          have hrk : rest.length = c2 := by omega
          go_wp2_with fail
          go_roundw
          case rel =>
            have hrel := REL.out (some ⟨g0, o0, none⟩) 0 (by omega) (.inl (by omega)) (fun e => rfl)
            rwa [show rest.length - c2 = 0 by omega] at hrel
          case measure => simp only [Mm.sliceN]; omega
        · go_wp2_with fail
          go_roundw
          case rel => exact REL.out _ _ (by omega) (.inr rfl) (fun e => by cases e)
          case measure => simp only [Mm.sliceN]; omega
end Go.Proofs.YtakldjdohgmeiaaDoor

namespace Go.Proofs.YtakldjdohgmeiaaDoor
open Go.RowKit
set_option maxRecDepth 20000

namespace Pl
theorem dec_val (s : ByteArray) (h : 0 < s.size) (hh : 128 ≤ (s.get! 0).toNat) (hne : (Utf8.decode s 0).1 ≠ 65533) :
    ((Utf8.decode s 0).2 = 2 ∧ (Utf8.decode s 0).1 < 2048) ∨ ((Utf8.decode s 0).2 = 3 ∧ (Utf8.decode s 0).1 < 65536) ∨ (Utf8.decode s 0).2 = 4 := by
  rw [Lib.decode_at] at *
  revert hne
  obtain ⟨q, hq⟩ : ∃ q, q = Lib.decodeN (s.size - 0) (s.get! 0).toNat (s.get! (0 + 1)).toNat (s.get! (0 + 2)).toNat (s.get! (0 + 3)).toNat := ⟨_, rfl⟩
  rw [← hq]
  unfold Lib.decodeN at hq
  intro hne
  repeat' split at hq
  all_goals (subst hq; first | exact absurd rfl hne | exact .inl ⟨rfl, by show _ < 2048; omega⟩ | exact .inr (.inl ⟨rfl, by show _ < 65536; omega⟩) | exact .inr (.inr rfl) | (exfalso; omega))
theorem enc_len (r : Int) (h : 128 ≤ r) : (r < 2048 → (Utf8.encode r).size = 2) ∧ (r < 65536 → (Utf8.encode r).size ≤ 3) ∧ 2 ≤ (Utf8.encode r).size ∧ (Utf8.encode r).size ≤ 4 := by
  unfold Utf8.encode
  obtain ⟨c, hc⟩ : ∃ c, c = (if Utf8.valid r then r.toNat else Utf8.runeError) := ⟨_, rfl⟩
  simp only [← hc]
  have h0 : 128 ≤ c := by rw [hc]; split <;> (try simp only [Utf8.runeError]) <;> omega
  have h1 : r < 65536 → c < 65536 := fun hr => by rw [hc]; split <;> (try simp only [Utf8.runeError]) <;> omega
  have h2 : r < 2048 → c < 2048 := fun hr => by
    rw [hc]
    have hv : Utf8.valid r = true := by unfold Utf8.valid; simp; omega
    rw [if_pos hv]
    omega
  rw [if_neg (by omega)]
  by_cases g1 : c < 0x800
  · rw [if_pos g1]
    exact ⟨fun _ => rfl, fun _ => show (2 : Nat) ≤ 3 by decide, show (2 : Nat) ≤ 2 by decide, show (2 : Nat) ≤ 4 by decide⟩
  · rw [if_neg g1]
    by_cases g2 : c < 0x10000
    · rw [if_pos g2]
      exact ⟨fun hr => absurd (h2 hr) (by omega), fun _ => show (3 : Nat) ≤ 3 by decide, show (2 : Nat) ≤ 3 by decide, show (3 : Nat) ≤ 4 by decide⟩
    · rw [if_neg g2]
      exact ⟨fun hr => absurd (h2 hr) (by omega), fun hr => absurd (h1 hr) (by omega), show (2 : Nat) ≤ 4 by decide, show (4 : Nat) ≤ 4 by decide⟩
/-- a text of two bytes or more that is not CR LF does not stand in CR LF -/
theorem index_hi (E : ByteArray) (h : 2 ≤ E.size) (hne : (([13, 10] : List UInt8) == E.toList) = false) : Lib.index [13, 10] E.data.toList = -1 :=
  Lib.long ⟨#[13, 10]⟩ E (by show 2 ≤ E.size; omega) (by
    apply Bool.eq_false_iff.2
    intro e
    rw [beq_iff_eq] at e
    rw [Bool.eq_false_iff] at hne
    exact hne (by rw [e, beq_iff_eq, Lib.toList_data]))
end Pl
namespace Mm
/-- the variable internal/bytealg.MaxLen holds some number, for good -/
def MaxI (w : World) : Prop := Stays (fun w => ∃ m, w.cell? ⟨6, 0, none⟩ = some (.int .i64 m)) w
theorem maxI_of {w : World} (h : ∃ m, w.cell? ⟨6, 0, none⟩ = some (.int .i64 m)) : MaxI w := fun _ hb => by
  obtain ⟨m, hm⟩ := h
  exact ⟨m, (hb.cell (p := ⟨6, 0, none⟩) (World.block_lt_of_cell? _ _ hm)).trans hm⟩
end Mm

set_option maxHeartbeats 8000000 in
theorem bindexAny_short (g o n c : Nat) (l : List UInt8) (w : World) (hn : n = l.length) (h1 : n ≠ 1) (h8 : n ≤ 8) (a : Option Addr) (hm : 0 < n → a = some ⟨g, o, none⟩ ∧ Mm.BytesAt w g o l) (hc : n ≤ c) (hU : Mm.U8 w) (hX : Mm.MaxI w) :
    Calls Tryd.prog 84 #[.slice a n c, .string ⟨#[13, 10]⟩] w fun e w' => (∃ k : Int, e = .returned (.int .i64 k) ∧ Pl.hitE l k) ∧ Below w.heap.size w w' := by
  have h8z : decide ((8 : Int) < (n : Int)) = false := decide_eq_false (by omega)
  have hn1 : ((n : Int) == 1) = false := beq_eq_false_iff_ne.2 (by omega)
  have HM := Pl.hid hm
  have HN := Pl.hid hn
  have HU := Pl.hid hU
  have HX := Pl.hid hX
  obtain ⟨m, hm0⟩ := HX.out.here
  have HMX := Pl.hid hm0
  clear hm hn hU hX hm0
  go_enter Tryd.func84, Tryd.ntmps84
  go_wp2_with (go_at_call 103; refine (bshould_walk _ _).mono ?_; rintro e w' ⟨rfl, rfl⟩; rw [h8z])
  go_loopw [12] (fun iv wr => ∃ i : Nat, iv = .int .i64 i ∧ i ≤ n ∧ Hid (Below w.heap.size w wr) ∧ Hid (Pl.noE l i)) (fun iv _ => n - (intOf iv).toNat)
  case atStart => exact ⟨0, rfl, Nat.zero_le _, Below.refl _ _, Pl.noE_zero l⟩
  case round =>
    obtain ⟨i, rfl, hi, HB, HNo⟩ := hrel
    rcases Nat.lt_or_ge i n with hlt | hge
    · obtain ⟨rfl, hm⟩ := HM.out (by omega)
      have HBY : Hid (∀ j, j < n → wr.cell? ⟨g, o + j, none⟩ = some (.int .u8 (Pl.at_ l j))) := fun j hj => (HB.out.cell (p := ⟨g, o + j, none⟩) (World.block_lt_of_cell? _ _ (hm j (by rw [← HN.out]; exact hj)))).trans (hm j (by rw [← HN.out]; exact hj))
      have hc0 := HBY.out i hlt
      clear hm
      obtain ⟨x, hx⟩ : ∃ x, l.getD i 0 = x := ⟨_, rfl⟩
      unfold Pl.at_ at hc0
      rw [hx] at hc0
      have HXX := Pl.hid hx
      clear hx
      by_cases ha : x.toNat < 128
      · rcases Pl.idx2 x with ⟨hx1, hx2⟩ | ⟨hx1, hx2⟩
        · obtain ⟨N, hN⟩ : ∃ N, N = Lib.indexByte [13, 10] x := ⟨_, rfl⟩
          rw [← hN] at hx2
          have HN2 := Pl.hid hN
          have HX1 := Pl.hid hx1
          clear hN hx1
          go_wp2_with fail
          (rw [run_callFunc_extern Tryd.func101 (by kernel_rfl) (by kernel_rfl) (by kernel_rfl) (e := Extern.BytealgIndexByte.indexByte) (by kernel_rfl), Lib.run_indexByteString]; simp only [Result.andThen]; rw [Oper.upon_value])
          rw [Lib.byte_back, ← HN2.out]
          go_wp2_with fail
          go_ret
          exact ⟨⟨_, rfl, .inr ⟨i, rfl, by rw [← HN.out]; exact hlt, HNo.out, by rw [HXX.out]; exact HX1.out⟩⟩, HB.out⟩
        · have HX1 := Pl.hid hx1
          have HX2 := Pl.hid hx2
          clear hx1 hx2
          have hlt1 : ¬ (0 : Int) ≤ -1 := by decide
          go_wp2_with fail
          (rw [run_callFunc_extern Tryd.func101 (by kernel_rfl) (by kernel_rfl) (by kernel_rfl) (e := Extern.BytealgIndexByte.indexByte) (by kernel_rfl), Lib.run_indexByteString]; simp only [Result.andThen]; rw [Oper.upon_value])
          rw [Lib.byte_back, HX2.out]
          go_wp2_with fail
          go_roundw
          case rel => exact ⟨i + 1, by go_num, hlt, HB.out, HNo.out.succ (by rw [HXX.out]; exact HX1.out)⟩
          case measure => simp [intOf]; omega
      · have hx256 : (x.toNat : Int) < 256 := by have := UInt8.toNat_lt x; omega
        have hn128 : ¬ ((x.toNat : Int) < 128) := by omega
        obtain ⟨s, hs⟩ : ∃ s, s = Pl.B (l.drop i) := ⟨_, rfl⟩
        have hsz : s.size = n - i := by rw [hs, Pl.B_size, List.length_drop, ← HN.out]
        have hget : ∀ j, j < n - i → s.get! j = l.getD (i + j) 0 := fun j hj => by
          rw [Pl.get_bang s j (by omega), hs, Pl.L_B, List.getD_eq_getElem?_getD, List.getElem?_drop, ← List.getD_eq_getElem?_getD]
        have hh : 128 ≤ (s.get! 0).toNat := by rw [hget 0 (by omega), Nat.add_zero, HXX.out]; omega
        have hg0 : s.get! 0 = s[0]'(by omega) := get_at s 0 (by omega)
        have hsp := Pl.dec_span s 0 (by omega) (by rw [← hg0]; exact hh)
        have hhi := decode_high s 0 (by omega) (by rw [← hg0]; exact hh)
        have hle := decode_le s 0
        have hdv := Pl.dec_val s (by omega) hh
        have hD := decodeRune_walk s g (o + i) (c - i) wr (HU.out.on HB.out) (fun j hj => by
          have := HBY.out (i + j) (by omega)
          rw [hget j (by omega), Nat.add_assoc]
          exact this)
        have hgo : Lib.decodeGo s = Utf8.decode s 0 := by unfold Lib.decodeGo; rw [if_neg (by omega)]
        rw [hgo, hsz] at hD
        obtain ⟨r, hr⟩ : ∃ r, r = (Utf8.decode s 0).1 := ⟨_, rfl⟩
        obtain ⟨d, hd⟩ : ∃ d, d = (Utf8.decode s 0).2 := ⟨_, rfl⟩
        rw [← hr, ← hd] at hD hdv hhi
        rw [← hd] at hsp
        rw [← hr] at hle
        have HNX : Hid (i + d ≤ n ∧ Pl.noE l (i + d)) := by
          refine ⟨by omega, fun j hj => ?_⟩
          rcases Nat.lt_or_ge j i with hji | hji
          · exact HNo.out j hji
          · have h1 := hsp.2 (j - i) (Nat.zero_le _) (by omega)
            rw [hget (j - i) (by omega), show i + (j - i) = j by omega] at h1
            exact Pl.hi_isEnd _ h1
        have hd1 := hhi.2
        have hr1 := hhi.1
        have HD := Pl.hid hD
        have HDV := Pl.hid hdv
        clear hD hdv hgo hr hd hs hsz hget hh hg0 hsp hhi
        have HHI : Hid (128 ≤ r) := hr1
        by_cases he : r = 65533
        · subst he
          clear hr1 hle
          go_wp2_with (go_at_call 106; refine HD.out.mono ?_; rintro e w2 ⟨rfl, hb2⟩; have HB2 := Pl.hid (HB.out.trans (hb2.mono HB.out.size)); clear hb2)
          go_loopg [15] 2 (fun g _ wx => ∃ k : Nat, k + g = 2 ∧ wx = w2.iter ⟨#[13, 10]⟩ k)
          case atStart => exact ⟨0, by omega, rfl⟩
          case round =>
            obtain ⟨k, hkg, rfl⟩ := hrel
            have hs2 : (⟨#[13, 10]⟩ : ByteArray).size = 2 := rfl
            cases gk with
            | zero =>
              obtain rfl : k = 2 := by omega
              have hnx := run_next_end (P := Tryd.prog) w2 ⟨#[13, 10]⟩ 2
              have hid := HNX.out.1
              go_wp2
              go_roundw
              case rel => exact ⟨i + d, by go_num, HNX.out.1, HB2.out.alloc HB2.out.size _, HNX.out.2⟩
              case measure => simp [intOf]; omega
            | succ g =>
              rcases (show k = 0 ∨ k = 1 by omega) with rfl | rfl
              · have hnx := fun ty => run_next_ascii (P := Tryd.prog) w2 ⟨#[13, 10]⟩ 0 ty (by decide) (by decide)
                go_wp2
                go_roundg g
                case measure => omega
                case rel => exact ⟨_, by omega, rfl⟩
              · have hnx := fun ty => run_next_ascii (P := Tryd.prog) w2 ⟨#[13, 10]⟩ 1 ty (by decide) (by decide)
                go_wp2
                go_roundg g
                case measure => omega
                case rel => exact ⟨_, by omega, rfl⟩
        · have hne : ((r : Int) != 65533) = true := bne_iff_ne.2 (by omega)
          obtain ⟨E, hE⟩ : ∃ E, E = Utf8.encode (r : Int) := ⟨_, rfl⟩
          obtain ⟨l1, l2, l3, l4⟩ := Pl.enc_len (r : Int) (by omega)
          rw [← hE] at l1 l2 l3 l4
          obtain ⟨ea, eb, et, hEl, heb, _⟩ := Pl.enc_hi (r : Int) (by omega)
          rw [← hE] at hEl
          have HE := Pl.hid hE
          clear hE
          have heq : (([13, 10] : List UInt8) == E.toList) = false := by
            apply Bool.eq_false_iff.2
            intro e
            rw [beq_iff_eq, Lib.toList_data, hEl] at e
            simp only [List.cons.injEq] at e
            obtain ⟨_, e2, e3⟩ := e
            have := heb e3.symm
            rw [← e2] at this
            exact absurd this (by decide)
          have HIX := Pl.hid (Pl.index_hi E l3 heq)
          clear hEl heb
          rcases HDV.out he with ⟨rfl, hr2⟩ | hd34
          · clear l1 l2 l3 l4 hle
            go_wp2_with (first | (go_at_call 106; refine HD.out.mono ?_; rintro e w2 ⟨rfl, hb2⟩; have HB2 := Pl.hid (HB.out.trans (hb2.mono HB.out.size)); clear hb2) | (refine Mm.wp_runestr _ rfl _ (by rfl) r E HE.out (by rfl) ?_))
            go_roundw
            case rel => have hid := HNX.out.1; exact ⟨i + 2, by go_num, HNX.out.1, HB2.out, HNX.out.2⟩
            case measure => have hid := HNX.out.1; simp [intOf]; omega
          · have hE3 : (E.size : Int) ≤ d ∧ 3 ≤ d ∧ d ≤ 4 := by
              rcases hd34 with ⟨rfl, h⟩ | rfl
              · exact ⟨by have := l2 (by omega); omega, by omega, by omega⟩
              · exact ⟨by omega, by omega, by omega⟩
            have hd2 : ((2 : Int) == (d : Int)) = false := beq_eq_false_iff_ne.2 (by omega)
            have HES : Hid (2 ≤ E.size ∧ (E.size : Int) ≤ d) := ⟨l3, hE3.1⟩
            have HD34 := Pl.hid hd34
            clear l1 l2 l3 l4 hE3 hd34
            by_cases hmd : (d : Int) ≤ m
            · clear hle heq
              go_wp2_with (first | (go_at_call 106; refine HD.out.mono ?_; rintro e w2 ⟨rfl, hb2⟩; have HB2 := Pl.hid (HB.out.trans (hb2.mono HB.out.size)); clear hb2; have hm2 := (HB2.out.cell (p := ⟨6, 0, none⟩) (World.block_lt_of_cell? _ _ HMX.out)).trans HMX.out) | (refine Mm.wp_runestr _ rfl _ (by rfl) r E HE.out (by rfl) ?_))
              rw [run_callFunc_extern Tryd.func107 (by kernel_rfl) (by kernel_rfl) (by kernel_rfl) (e := Extern.BytealgIndex.index) (by kernel_rfl), Lib.run_indexString ⟨#[13, 10]⟩ E _ 6 m (by kernel_rfl) hm2 HES.out.1 (Int.le_trans HES.out.2 hmd) (by decide)]
              simp only [Result.andThen]
              rw [Oper.upon_value]
              rw [HIX.out]
              clear hm2
              have hlt1 : ¬ (0 : Int) ≤ -1 := by decide
              have hid := HNX.out.1
              go_wp2_with fail
              go_roundw
              case rel => exact ⟨i + d, by go_num, HNX.out.1, HB2.out, HNX.out.2⟩
              case measure => simp [intOf]; omega
            · clear hle heq
              have hr13 : ((r : Int) == ((((⟨#[13, 10]⟩ : ByteArray)[0]'(by decide)).toNat : Nat) : Int)) = false := beq_eq_false_iff_ne.2 (by show ¬ (r : Int) = 13; omega)
              have hr10 : ((r : Int) == ((((⟨#[13, 10]⟩ : ByteArray)[1]'(by decide)).toNat : Nat) : Int)) = false := beq_eq_false_iff_ne.2 (by show ¬ (r : Int) = 10; omega)
              go_wp2_with (go_at_call 106; refine HD.out.mono ?_; rintro e w2 ⟨rfl, hb2⟩; have HB2 := Pl.hid (HB.out.trans (hb2.mono HB.out.size)); clear hb2; have hm2 := (HB2.out.cell (p := ⟨6, 0, none⟩) (World.block_lt_of_cell? _ _ HMX.out)).trans HMX.out)
              clear hm2
              go_loopg [15] 2 (fun g _ wx => ∃ k : Nat, k + g = 2 ∧ wx = w2.iter ⟨#[13, 10]⟩ k)
              case atStart => exact ⟨0, by omega, rfl⟩
              case round =>
                obtain ⟨k, hkg, rfl⟩ := hrel
                have hs2 : (⟨#[13, 10]⟩ : ByteArray).size = 2 := rfl
                cases gk with
                | zero =>
                  obtain rfl : k = 2 := by omega
                  have hnx := run_next_end (P := Tryd.prog) w2 ⟨#[13, 10]⟩ 2
                  have hid := HNX.out.1
                  go_wp2
                  go_roundw
                  case rel => exact ⟨i + d, by go_num, HNX.out.1, HB2.out.alloc HB2.out.size _, HNX.out.2⟩
                  case measure => simp [intOf]; omega
                | succ g =>
                  rcases (show k = 0 ∨ k = 1 by omega) with rfl | rfl
                  · have hnx := fun ty => run_next_ascii (P := Tryd.prog) w2 ⟨#[13, 10]⟩ 0 ty (by decide) (by decide)
                    go_wp2
                    go_roundg g
                    case measure => omega
                    case rel => exact ⟨_, by omega, rfl⟩
                  · have hnx := fun ty => run_next_ascii (P := Tryd.prog) w2 ⟨#[13, 10]⟩ 1 ty (by decide) (by decide)
                    go_wp2
                    go_roundg g
                    case measure => omega
                    case rel => exact ⟨_, by omega, rfl⟩
    · obtain rfl : i = n := by omega
      go_wp2_with fail
      go_ret
      exact ⟨⟨_, rfl, .inl ⟨Pl.noE_all HNo.out (by rw [← HN.out]; exact Nat.le_refl _), rfl⟩⟩, HB.out⟩
end Go.Proofs.YtakldjdohgmeiaaDoor

namespace Go.Proofs.YtakldjdohgmeiaaDoor
open Go.RowKit
set_option maxRecDepth 20000

set_option maxHeartbeats 8000000 in
theorem bindexAny_one (g o c : Nat) (l : List UInt8) (w : World) (hl : l.length = 1) (hm : Mm.BytesAt w g o l) (hc : 1 ≤ c) :
    Calls Tryd.prog 84 #[.slice (some ⟨g, o, none⟩) 1 c, .string ⟨#[13, 10]⟩] w fun e w' => (∃ k : Int, e = .returned (.int .i64 k) ∧ Pl.hitE l k) ∧ Below w.heap.size w w' := by
  obtain ⟨x, rfl⟩ : ∃ x, l = [x] := by
    match l, hl with
    | [x], _ => exact ⟨x, rfl⟩
  have hc0 : w.cell? ⟨g, o, none⟩ = some (.int .u8 x.toNat) := hm 0 (by simp)
  have hx256 : (x.toNat : Int) < 256 := by have := UInt8.toNat_lt x; omega
  clear hm hl
  go_enter Tryd.func84, Tryd.ntmps84
  by_cases ha : x.toNat < 128
  · have hn128 : ¬ ((128 : Int) ≤ x.toNat) := by omega
    rcases Pl.idx2 x with ⟨hx1, hx2⟩ | ⟨hx1, hx2⟩
    · obtain ⟨N, hN⟩ : ∃ N, N = Lib.indexByte [13, 10] x := ⟨_, rfl⟩
      rw [← hN] at hx2
      have HN2 := Pl.hid hN
      have HX1 := Pl.hid hx1
      clear hN hx1
      go_wp2_with fail
      (rw [run_callFunc_extern Tryd.func101 (by kernel_rfl) (by kernel_rfl) (by kernel_rfl) (e := Extern.BytealgIndexByte.indexByte) (by kernel_rfl), Lib.run_indexByteString]; simp only [Result.andThen]; rw [Oper.upon_value])
      rw [Lib.byte_back, ← HN2.out]
      go_wp2_with fail
      go_ret
      exact ⟨⟨_, rfl, .inr ⟨0, rfl, by simp, Pl.noE_zero _, HX1.out⟩⟩, Below.refl _ _⟩
    · have HX1 := Pl.hid hx1
      have HX2 := Pl.hid hx2
      clear hx1 hx2
      have hlt1 : ¬ (0 : Int) ≤ -1 := by decide
      go_wp2_with fail
      (rw [run_callFunc_extern Tryd.func101 (by kernel_rfl) (by kernel_rfl) (by kernel_rfl) (e := Extern.BytealgIndexByte.indexByte) (by kernel_rfl), Lib.run_indexByteString]; simp only [Result.andThen]; rw [Oper.upon_value])
      rw [Lib.byte_back, HX2.out]
      go_wp2_with fail
      go_ret
      exact ⟨⟨_, rfl, .inl ⟨Pl.noE_all (Pl.noE_zero _ |>.succ HX1.out) (by simp), rfl⟩⟩, Below.refl _ _⟩
  · have hn128 : (128 : Int) ≤ x.toNat := by omega
    have HX1 : Hid (Pl.isEnd x = false) := Pl.hi_isEnd x (by omega)
    go_wp2_with fail
    go_loopg [5] 2 (fun g _ wx => ∃ k : Nat, k + g = 2 ∧ wx = w.iter ⟨#[13, 10]⟩ k)
    case atStart => exact ⟨0, by omega, rfl⟩
    case round =>
      obtain ⟨k, hkg, rfl⟩ := hrel
      have hs2 : (⟨#[13, 10]⟩ : ByteArray).size = 2 := rfl
      cases gk with
      | zero =>
        obtain rfl : k = 2 := by omega
        have hnx := run_next_end (P := Tryd.prog) w ⟨#[13, 10]⟩ 2
        go_wp2
        go_ret
        exact ⟨⟨_, rfl, .inl ⟨Pl.noE_all (Pl.noE_zero _ |>.succ HX1.out) (by simp), rfl⟩⟩, (Below.refl _ _).alloc (Nat.le_refl _) _⟩
      | succ g =>
        rcases (show k = 0 ∨ k = 1 by omega) with rfl | rfl
        · have hnx := fun ty => run_next_ascii (P := Tryd.prog) w ⟨#[13, 10]⟩ 0 ty (by decide) (by decide)
          go_wp2
          go_roundg g
          case measure => omega
          case rel => exact ⟨_, by omega, rfl⟩
        · have hnx := fun ty => run_next_ascii (P := Tryd.prog) w ⟨#[13, 10]⟩ 1 ty (by decide) (by decide)
          go_wp2
          go_roundg g
          case measure => omega
          case rel => exact ⟨_, by omega, rfl⟩

/-- bytes.IndexAny(b, "\r\n") -/
theorem bindexAny_walk (v : Value) (l : List UInt8) (w : World) (hv : Mm.Bs w v l) (hl : l.length ≤ 9223372036854775807) (hU : Mm.U8 w) (hX : Mm.MaxI w) :
    Calls Tryd.prog 84 #[v, .string ⟨#[13, 10]⟩] w fun e w' => (∃ k : Int, e = .returned (.int .i64 k) ∧ Pl.hitE l k) ∧ Below w.heap.size w w' := by
  obtain ⟨a, c, rfl, hc, _, hm⟩ := hv
  rcases Nat.eq_zero_or_pos l.length with h0 | h0
  · exact bindexAny_short 0 0 l.length c l w rfl (by omega) (by omega) a (fun h => by omega) hc hU hX
  · obtain ⟨g, o, rfl, hb⟩ := hm h0
    by_cases h1 : l.length = 1
    · rw [h1] at hc ⊢
      exact bindexAny_one g o c l w h1 hb hc
    · rcases Nat.lt_or_ge 8 l.length with h8 | h8
      · exact bindexAny_long g o l.length c l w rfl h8 hb hl (World.block_lt_of_cell? _ _ (hb 0 h0))
      · exact bindexAny_short g o l.length c l w rfl h1 h8 _ (fun _ => ⟨rfl, hb⟩) hc hU hX
end Go.Proofs.YtakldjdohgmeiaaDoor

namespace Go.Proofs.YtakldjdohgmeiaaDoor
open Go.RowKit
set_option maxRecDepth 20000

namespace Pl
def crlf : List UInt8 := [13, 10]
def bulkE (s : List UInt8) : List UInt8 := [36] ++ Lib.decDigits s.length ++ crlf ++ s ++ crlf
def reqE (ws : List (List UInt8)) : List UInt8 := [42] ++ Lib.decDigits ws.length ++ crlf ++ ws.flatMap bulkE
theorem dec_len (n : Nat) (h : n ≤ 9223372036854775807) : (Lib.decDigits n).length ≤ 21 := by
  have := itoa_le (n : Int) (by unfold In64; omega)
  rwa [itoa_pos (by omega)] at this
end Pl
namespace Mm
open Pl
def isU8 (o : Obj) : Prop := ∃ cs fr, o = .cells cs 5 fr
/-- what is no row of bytes stays -/
def NB (w w' : World) : Prop := ∀ (g : Nat) (o : Obj), w.heap[g]? = some o → ¬ isU8 o → w'.heap[g]? = some o
theorem NB.refl (w : World) : NB w w := fun _ _ h _ => h
theorem NB.trans {a b c : World} (h : NB a b) (k : NB b c) : NB a c := fun g o hg hn => k g o (h g o hg hn) hn
theorem NB.below {w w' : World} (h : Below w.heap.size w w') : NB w w' := fun g _ hg _ => (h.block g (Array.getElem?_eq_some_iff.1 hg).1).trans hg
theorem NB.own {w w' : World} {b : Nat} {v : Value} {l : List UInt8} (h : OwnB w b v l) (hg : w.grownBy w' v.ownBlock) : NB w w' := fun g o hgo hn => by
  refine (hg.block g (Array.getElem?_eq_some_iff.1 hgo).1 (fun e => ?_)).trans hgo
  rcases h.2 with ⟨rfl, _⟩ | ⟨g', cap, cur, rfl, _, hh, _⟩
  · cases e
  · injection e with e
    subst e
    rw [hgo] at hh
    injection hh with hh
    exact hn ⟨_, _, hh⟩
/-- 'append(b, c)' -/
theorem wp_app1N {ops : Array Oper} {rest : List Oper} {o : Oper} {a : Act} {Q : Exit → Act → World → Prop} (w : World) (hgd : o.guard = none) (x y : Operand)
    (ho : o.op = .call { callee := .builtin .append, args := #[x, y], argTypes := #[24, 24] })
    (base : Nat) (v : Value) (l : List UInt8) (c : UInt8) (hx : a.eval x = v) (hy : a.eval y = .slice (some ⟨w.heap.size, 0, none⟩) 1 1) (h : OwnB w base v l) (hl : l.length < 140737488355328) (hbase : base ≤ w.heap.size)
    (hK : ∀ v' w', OwnB w' base v' (l ++ [c]) → Below base w w' → NB w w' → wpList Tryd.prog ops Q rest (a.put o.dst v') w') :
    wpList Tryd.prog ops Q (o :: rest) a (w.alloc (.cells #[.int .u8 c.toNat] 5)) := by
  obtain ⟨i0, hi, hz0, hz1, hz2⟩ := info_parts Tryd.info_u8
  refine wpList_append_own _ hgd x y 24 ho base 5 i0 (.int .u8 0) 1 1 Tryd.underlying24 hi hz0 hz1 hz2 rfl (by decide) v l.length (bytesV l) hx (h.alloc _) ⟨w.heap.size, 0, none⟩ 1 1 [byteV c] hy rfl (cell_one_new _ _ _) ?_ ?_ ?_ ?_ ?_
  · intro u hu
    simp at hu
    subst hu
    rfl
  · unfold maxLen; omega
  · omega
  · simp; omega
  · intro v' w' h1 h2 _
    exact hK v' w' (by unfold OwnB; rw [bytesV_append, List.length_append]; exact h1) (((Below.refl _ _).alloc hbase _).grown h2 (by simp; omega) (fun k hk => (h.lt k hk).1))
      ((NB.below ((Below.refl _ _).alloc (Nat.le_refl _) _)).trans (NB.own (h.alloc _) h2))
/-- 'append(b, s...)', s a text -/
theorem wp_appSN {ops : Array Oper} {rest : List Oper} {o : Oper} {a : Act} {Q : Exit → Act → World → Prop} (w : World) (hgd : o.guard = none) (x y : Operand)
    (ho : o.op = .call { callee := .builtin .append, args := #[x, y], argTypes := #[24, 9] })
    (base : Nat) (v : Value) (l : List UInt8) (s : ByteArray) (hx : a.eval x = v) (hy : a.eval y = .string s) (h : OwnB w base v l) (hl : l.length + s.size ≤ 140737488355328) (hbase : base ≤ w.heap.size)
    (hK : ∀ v' w', OwnB w' base v' (l ++ L s) → Below base w w' → NB w w' → wpList Tryd.prog ops Q rest (a.put o.dst v') w') : wpList Tryd.prog ops Q (o :: rest) a w := by
  obtain ⟨i0, hi, hz0, hz1, hz2⟩ := info_parts Tryd.info_u8
  refine Lib.wpList_append_own_string _ hgd x y 24 9 ho base 5 i0 Tryd.underlying24 Tryd.underlying9 hi hz0 hz1 hz2 v l.length (bytesV l) hx h s hy (by unfold maxLen; omega) hl hbase ?_
  intro v' w' h1 h2 _
  refine hK v' w' ?_ ((Below.refl _ _).grown h2 hbase (fun k hk => (h.lt k hk).1)) (NB.own h h2)
  unfold OwnB
  rw [bytesV_append, List.length_append, L_length]
  exact h1
end Mm

theorem sign_4 (w : World) : Calls Tryd.prog 60 #[.int .i64 4] w fun e w' => e = .returned (.int .u8 36) ∧ w = w' := by
  go_enter Tryd.func60, Tryd.ntmps60
  go_wp2_with fail
  go_ret
  exact ⟨rfl, rfl⟩
theorem sign_6 (w : World) : Calls Tryd.prog 60 #[.int .i64 6] w fun e w' => e = .returned (.int .u8 42) ∧ w = w' := by
  go_enter Tryd.func60, Tryd.ntmps60
  go_wp2_with fail
  go_ret
  exact ⟨rfl, rfl⟩

set_option maxHeartbeats 4000000 in
theorem lay_bulk (s : ByteArray) (la : Option Addr) (lc base : Nat) (v : Value) (l : List UInt8) (W w : World) (hT : Mm.Tab W) (hW : Below W.heap.size W w) (hWb : W.heap.size ≤ base) (hb : base ≤ w.heap.size) (ho : Mm.OwnB w base v l) (hl : l.length ≤ 1099511627776) (hs : s.size ≤ 1099511627776) :
    Calls Tryd.prog 48 #[v, .agg #[.int .i64 4, .string s, .int .i64 0, .slice la 0 lc]] w fun e w' => ∃ v', e = .returned v' ∧ Mm.OwnB w' base v' (l ++ Pl.bulkE (Pl.L s)) ∧ Below base w w' ∧ Mm.NB w w' := by
  obtain ⟨p, hp⟩ : ∃ p, p = w.heap.size := ⟨_, rfl⟩
  obtain ⟨w0, hw0⟩ : ∃ w0, w0 = w.alloc (.cells #[.int .i64 4, .string s, .int .i64 0, .slice la 0 lc] 31) := ⟨_, rfl⟩
  have HP0 : Hid (w0.heap[p]? = some (.cells #[.int .i64 4, .string s, .int .i64 0, .slice la 0 lc] 31 (0, 0))) := by
    show _ = _
    rw [hw0, hp]
    exact heap_alloc_new w _
  have HB0 : Hid (Below w.heap.size w w0) := by rw [hw0]; exact (Below.refl _ _).alloc (Nat.le_refl _) _
  have HS0 : Hid (w0.heap.size = w.heap.size + 1) := by show _ = _; rw [hw0]; simp
  have hnu : ¬ Mm.isU8 (.cells #[.int .i64 4, .string s, .int .i64 0, .slice la 0 lc] 31 (0, 0)) := by
    rintro ⟨cs, fr, e⟩
    injection e with _ e _
    exact absurd e (by decide)
  have HK : Hid (∀ V, Mm.NB w0 V → V.cell? ⟨p, 0, none⟩ = some (.int .i64 4) ∧ V.cell? ⟨p, 1, none⟩ = some (.string s)) := fun V hV => by
    have h := hV p _ HP0.out hnu
    exact ⟨Mm.cellOf h rfl, Mm.cellOf h rfl⟩
  have HO0 : Hid (Mm.OwnB w0 base v l) := ho.keep fun g hg => HB0.out.block g (ho.lt g hg).2
  have HW := Pl.hid hW
  have HT := Pl.hid hT
  have HWb := Pl.hid hWb
  have hb0 : base ≤ w0.heap.size := by rw [HS0.out]; omega
  have HBB := Pl.hid hb
  obtain ⟨k0, k1⟩ := HK.out w0 (Mm.NB.refl _)
  have HW0eq := Pl.hid hw0
  have HPeq := Pl.hid hp
  clear hw0 hp hnu ho hW hT
  go_enter Tryd.func48, Tryd.ntmps48
  obtain ⟨TX, hTX⟩ : ∃ TX, TX = Pl.B (Lib.itoa (s.size : Int)) := ⟨_, rfl⟩
  have hTs : TX.size ≤ 21 := by rw [hTX, Pl.B_size]; exact Pl.itoa_le _ (by unfold Pl.In64; omega)
  have HTX : Hid (TX = Pl.B (Lib.decDigits s.size)) := by
    show _ = _
    rw [hTX, Pl.itoa_pos (by omega)]
    rfl
  have HTW := Pl.hid (fun w' (hw' : Mm.Tab w') => text_walk (s.size : Int) w' (by unfold Pl.In64; omega) hw')
  rw [← hTX] at HTW
  have hLs : (Pl.L s).length = s.size := Pl.L_length s
  have HLs := Pl.hid hLs
  clear hTX hLs
  have H13 : Hid ((TX ++ (⟨#[13, 10]⟩ : ByteArray)).size ≤ 23) := by
    show _ ≤ _
    rw [ByteArray.size_append, show (⟨#[13, 10]⟩ : ByteArray).size = 2 from rfl]
    omega
  go_wp2_with fail
  rw [← HW0eq.out, ← HPeq.out]
  refine (sign_4 w0).mono ?_
  rintro e w0' ⟨rfl, rfl⟩
  go_wp2_with (at_builtin; refine Mm.wp_app1N w0 rfl _ _ (by rfl) base v l 36 (by rfl) (by rfl) HO0.out (by omega) hb0 ?_; intro v1 w1 ho1 hb1 hn1; have HO1 := Pl.hid ho1; have HB1 := Pl.hid hb1; have HN1 := Pl.hid hn1; clear ho1 hb1 hn1 k0 k1; obtain ⟨k0, k1⟩ := HK.out w1 HN1.out)
  have HW1 : Hid (Below W.heap.size W w1) := HW.out.trans (((HB0.out.mono HBB.out).trans HB1.out).mono HWb.out)
  refine (HTW.out w1 (HT.out.on HW1.out)).mono ?_
  rintro e w2 ⟨rfl, hb2⟩
  have HN2 := Pl.hid (HN1.out.trans (Mm.NB.below hb2))
  have HB2 := Pl.hid (HB1.out.trans (hb2.mono (Nat.le_trans hb0 HB1.out.size)))
  have HO2 : Hid (Mm.OwnB w2 base v1 (l ++ [36])) := HO1.out.keep fun g hg => hb2.block g (HO1.out.lt g hg).2
  clear hb2 k0 k1
  obtain ⟨k0, k1⟩ := HK.out w2 HN2.out
  have hb2s : base ≤ w2.heap.size := Nat.le_trans hb0 HB2.out.size
  have HL3 : Hid ((l ++ [36] ++ Pl.L (TX ++ (⟨#[13, 10]⟩ : ByteArray))).length ≤ 1099511627900) := by
    show (l ++ [36] ++ Pl.L (TX ++ (⟨#[13, 10]⟩ : ByteArray))).length ≤ 1099511627900
    have h13 : (TX ++ (⟨#[13, 10]⟩ : ByteArray)).size ≤ 23 := H13.out
    rw [List.length_append, List.length_append, Pl.L_length]
    simp only [List.length_cons, List.length_nil]
    omega
  go_wp2_with (first
    | (at_builtin; refine Mm.wp_appSN w2 rfl _ _ (by rfl) base v1 (l ++ [36]) (TX ++ (⟨#[13, 10]⟩ : ByteArray)) (by rfl) (by rfl) HO2.out (by have := H13.out; rw [List.length_append]; simp only [List.length_cons, List.length_nil]; omega) hb2s ?_; intro v3 w3 ho3 hb3 hn3; have HO3 := Pl.hid ho3; have HB3 := Pl.hid (HB2.out.trans hb3); have HN3 := Pl.hid (HN2.out.trans hn3); clear ho3 hb3 hn3 k0 k1; obtain ⟨k0, k1⟩ := HK.out w3 HN3.out; have hb3s := Nat.le_trans hb0 HB3.out.size)
    | (at_builtin; refine Mm.wp_appSN w3 rfl _ _ (by rfl) base v3 _ s (by rfl) (by rfl) HO3.out (by have := HL3.out; omega) hb3s ?_; intro v4 w4 ho4 hb4 hn4; have HO4 := Pl.hid ho4; have HB4 := Pl.hid (HB3.out.trans hb4); have HN4 := Pl.hid (HN3.out.trans hn4); clear ho4 hb4 hn4; have hb4s := Nat.le_trans hb0 HB4.out.size)
    | (at_builtin; refine Mm.wp_appSN w4 rfl _ _ (by rfl) base v4 _ ⟨#[13, 10]⟩ (by rfl) (by rfl) HO4.out (by rw [List.length_append, HLs.out]; have := HL3.out; have : (⟨#[13, 10]⟩ : ByteArray).size = 2 := rfl; omega) hb4s ?_; intro v5 w5 ho5 hb5 hn5; have HO5 := Pl.hid ho5; have HB5 := Pl.hid (HB4.out.trans hb5); have HN5 := Pl.hid (HN4.out.trans hn5); clear ho5 hb5 hn5))
  go_ret
  refine ⟨v5, rfl, ?_, (HB0.out.mono HBB.out).trans HB5.out, (Mm.NB.below HB0.out).trans HN5.out⟩
  have h := HO5.out
  rw [HTX.out, show (⟨#[13, 10]⟩ : ByteArray) = Pl.B Pl.crlf from rfl, Pl.B_append, Pl.L_B, Pl.L_B] at h
  unfold Pl.bulkE
  rw [HLs.out]
  simpa using h
end Go.Proofs.YtakldjdohgmeiaaDoor

namespace Go.Proofs.YtakldjdohgmeiaaDoor
open Go.RowKit
set_option maxRecDepth 20000

namespace Pl
def bulkT (s : List UInt8) : RT := RT.mk 4 (B s) 0 []
def reqT (ws : List (List UInt8)) : RT := RT.mk 6 ⟨#[]⟩ 0 (ws.map bulkT)
theorem bulkE_len (s : List UInt8) (h : s.length ≤ 9223372036854775807) : (bulkE s).length ≤ s.length + 26 ∧ s.length + 5 ≤ (bulkE s).length := by
  have := dec_len s.length h
  unfold bulkE crlf
  simp only [List.length_append, List.length_cons, List.length_nil]
  omega
theorem flat_take (ws : List (List UInt8)) (i : Nat) (s : List UInt8) (h : ws[i]? = some s) : (ws.take (i + 1)).flatMap bulkE = (ws.take i).flatMap bulkE ++ bulkE s := by
  rw [List.take_add_one, h]
  simp
theorem flat_le (ws : List (List UInt8)) (i : Nat) : ((ws.take i).flatMap bulkE).length ≤ (ws.flatMap bulkE).length := by
  conv => rhs; rw [← List.take_append_drop i ws]
  rw [List.flatMap_append, List.length_append]
  omega
end Pl

set_option maxHeartbeats 8000000 in
theorem lay_arr (ws : List (List UInt8)) (c0 c1 c2 c3 : Value) (base : Nat) (v : Value) (l : List UInt8) (W w : World) (hT : Mm.Tab W) (hX : Mm.RepX W (Pl.reqT ws) [c0, c1, c2, c3]) (hW : Below W.heap.size W w) (hWb : W.heap.size ≤ base) (hb : base ≤ w.heap.size) (ho : Mm.OwnB w base v l)
    (hl : l.length + (Pl.reqE ws).length ≤ 1099511627776) (hn : ws.length ≤ 1099511627776) (hs : ∀ s ∈ ws, s.length ≤ 1099511627776) :
    Calls Tryd.prog 48 #[v, .agg #[c0, c1, c2, c3]] w fun e w' => ∃ v', e = .returned v' ∧ Mm.OwnB w' base v' (l ++ Pl.reqE ws) ∧ Below base w w' ∧ Mm.NB w w' := by
  obtain ⟨la, lc, hcs, hel⟩ := hX.open
  obtain ⟨rfl, rfl, rfl, rfl⟩ : c0 = .int .i64 6 ∧ c1 = .string ⟨#[]⟩ ∧ c2 = .int .i64 0 ∧ c3 = .slice la (ws.map Pl.bulkT).length lc := by
    injection hcs with h0 hcs
    injection hcs with h1 hcs
    injection hcs with h2 hcs
    injection hcs with h3 hcs
    exact ⟨h0, h1, h2, h3⟩
  obtain ⟨n, hnn⟩ : ∃ n, n = ws.length := ⟨_, rfl⟩
  have hml : (ws.map Pl.bulkT).length = n := by rw [List.length_map, hnn]
  have hel' : n = 0 ∨ ∃ b, la = some ⟨b, 0, none⟩ ∧ b < W.heap.size ∧ ∀ (i : Nat) (s : List UInt8), ws[i]? = some s → ∃ f0 f1 f2 f3, W.cell? ⟨b, i * 4, none⟩ = some f0 ∧ W.cell? ⟨b, i * 4 + 1, none⟩ = some f1 ∧ W.cell? ⟨b, i * 4 + 2, none⟩ = some f2 ∧ W.cell? ⟨b, i * 4 + 3, none⟩ = some f3 ∧ Mm.RepX W (Pl.bulkT s) [f0, f1, f2, f3] := by
    rcases hel with h0 | ⟨b, h1, h2, h3⟩
    · exact .inl (by omega)
    · refine .inr ⟨b, h1, h2, fun i s hs => ?_⟩
      have hi : i < (ws.map Pl.bulkT).length := by rw [List.length_map]; exact (List.getElem?_eq_some_iff.1 hs).1
      obtain ⟨f0, f1, f2, f3, g0, g1, g2, g3, hr⟩ := h3 i hi
      refine ⟨f0, f1, f2, f3, g0, g1, g2, g3, ?_⟩
      have e : (ws.map Pl.bulkT)[i]'hi = Pl.bulkT s := by
        have : (ws.map Pl.bulkT)[i]? = some (Pl.bulkT s) := by rw [List.getElem?_map, hs]; rfl
        rw [List.getElem?_eq_getElem hi] at this
        injection this
      rwa [e] at hr
  clear hel
  rw [hml]
  obtain ⟨p, hp⟩ : ∃ p, p = w.heap.size := ⟨_, rfl⟩
  obtain ⟨w0, hw0⟩ : ∃ w0, w0 = w.alloc (.cells #[.int .i64 6, .string ⟨#[]⟩, .int .i64 0, .slice la n lc] 31) := ⟨_, rfl⟩
  have HP0 : Hid (w0.heap[p]? = some (.cells #[.int .i64 6, .string ⟨#[]⟩, .int .i64 0, .slice la n lc] 31 (0, 0))) := by
    show _ = _
    rw [hw0, hp]
    exact heap_alloc_new w _
  have HB0 : Hid (Below w.heap.size w w0) := by rw [hw0]; exact (Below.refl _ _).alloc (Nat.le_refl _) _
  have HS0 : Hid (w0.heap.size = w.heap.size + 1) := by show _ = _; rw [hw0]; simp
  have hnu : ¬ Mm.isU8 (.cells #[.int .i64 6, .string ⟨#[]⟩, .int .i64 0, .slice la n lc] 31 (0, 0)) := by
    rintro ⟨cs, fr, e⟩
    injection e with _ e _
    exact absurd e (by decide)
  have HK : Hid (∀ V, Mm.NB w0 V → V.cell? ⟨p, 0, none⟩ = some (.int .i64 6) ∧ V.cell? ⟨p, 3, none⟩ = some (.slice la n lc)) := fun V hV => by
    have h := hV p _ HP0.out hnu
    exact ⟨Mm.cellOf h rfl, Mm.cellOf h rfl⟩
  have HO0 : Hid (Mm.OwnB w0 base v l) := ho.keep fun g hg => HB0.out.block g (ho.lt g hg).2
  have HW := Pl.hid hW
  have HT := Pl.hid hT
  have HWb := Pl.hid hWb
  have hb0 : base ≤ w0.heap.size := by rw [HS0.out]; omega
  have HBB := Pl.hid hb
  have HEL := Pl.hid hel'
  have HNN := Pl.hid hnn
  have HSS := Pl.hid hs
  obtain ⟨k0, k3⟩ := HK.out w0 (Mm.NB.refl _)
  have HW0eq := Pl.hid hw0
  have HPeq := Pl.hid hp
  obtain ⟨TX, hTX⟩ : ∃ TX, TX = Pl.B (Lib.itoa (n : Int)) := ⟨_, rfl⟩
  have hn' : n ≤ 1099511627776 := by omega
  have hTs : TX.size ≤ 21 := by rw [hTX, Pl.B_size]; exact Pl.itoa_le _ (by unfold Pl.In64; omega)
  have HTX : Hid (TX = Pl.B (Lib.decDigits n)) := by
    show _ = _
    rw [hTX, Pl.itoa_pos (by omega)]
    rfl
  have HTW := Pl.hid (fun w' (hw' : Mm.Tab w') => text_walk (n : Int) w' (by unfold Pl.In64; omega) hw')
  rw [← hTX] at HTW
  have hlL : l.length ≤ 1099511627776 := by omega
  have HLL := Pl.hid hl
  have H13 : Hid ((TX ++ (⟨#[13, 10]⟩ : ByteArray)).size ≤ 23) := by
    show _ ≤ _
    rw [ByteArray.size_append, show (⟨#[13, 10]⟩ : ByteArray).size = 2 from rfl]
    omega
  have HE0 : Hid (l ++ [42] ++ Pl.L (TX ++ (⟨#[13, 10]⟩ : ByteArray)) = l ++ ([42] ++ Lib.decDigits n ++ Pl.crlf)) := by
    show _ = _
    rw [HTX.out, show (⟨#[13, 10]⟩ : ByteArray) = Pl.B Pl.crlf from rfl, Pl.B_append, Pl.L_B]
    simp
  clear hTX hw0 hp hnu ho hW hT hX hcs hel' hml hnn hs hl
  go_enter Tryd.func48, Tryd.ntmps48
  go_wp2_with fail
  rw [← HW0eq.out, ← HPeq.out]
  refine (sign_6 w0).mono ?_
  rintro e w0' ⟨rfl, rfl⟩
  go_wp2_with (at_builtin; refine Mm.wp_app1N w0 rfl _ _ (by rfl) base v l 42 (by rfl) (by rfl) HO0.out (by omega) hb0 ?_; intro v1 w1 ho1 hb1 hn1; have HO1 := Pl.hid ho1; have HB1 := Pl.hid hb1; have HN1 := Pl.hid hn1; clear ho1 hb1 hn1 k0 k3; obtain ⟨k0, k3⟩ := HK.out w1 HN1.out)
  have HW1 : Hid (Below W.heap.size W w1) := HW.out.trans (((HB0.out.mono HBB.out).trans HB1.out).mono HWb.out)
  refine (HTW.out w1 (HT.out.on HW1.out)).mono ?_
  rintro e w2 ⟨rfl, hb2⟩
  have HN2 := Pl.hid (HN1.out.trans (Mm.NB.below hb2))
  have HB2 := Pl.hid (HB1.out.trans (hb2.mono (Nat.le_trans hb0 HB1.out.size)))
  have HO2 : Hid (Mm.OwnB w2 base v1 (l ++ [42])) := HO1.out.keep fun g hg => hb2.block g (HO1.out.lt g hg).2
  clear hb2 k0 k3
  obtain ⟨k0, k3⟩ := HK.out w2 HN2.out
  have hb2s : base ≤ w2.heap.size := Nat.le_trans hb0 HB2.out.size
  go_wp2_with (at_builtin; refine Mm.wp_appSN w2 rfl _ _ (by rfl) base v1 (l ++ [42]) (TX ++ (⟨#[13, 10]⟩ : ByteArray)) (by rfl) (by rfl) HO2.out (by have := H13.out; rw [List.length_append]; simp only [List.length_cons, List.length_nil]; omega) hb2s ?_; intro v3 w3 ho3 hb3 hn3; rw [HE0.out] at ho3; have HO3 := Pl.hid ho3; have HB3 := Pl.hid (HB2.out.trans hb3); have HN3 := Pl.hid (HN2.out.trans hn3); clear ho3 hb3 hn3 k0 k3; obtain ⟨k0, k3⟩ := HK.out w3 HN3.out)
  have HB03 : Hid (Below base w w3) := (HB0.out.mono HBB.out).trans HB3.out
  clear k0 k3
  go_loopw [50, 0] (fun iv bvv wr => ∃ (i : Nat) (bv : Value), iv = .int .i64 i ∧ bv = bvv ∧ i ≤ n ∧ Hid (Mm.OwnB wr base bv (l ++ ([42] ++ Lib.decDigits n ++ Pl.crlf) ++ (ws.take i).flatMap Pl.bulkE)) ∧ Hid (Below base w wr) ∧ Hid (Mm.NB w0 wr)) (fun iv _ _ => n - (intOf iv).toNat)
  case atStart => exact ⟨0, _, rfl, rfl, Nat.zero_le _, by show Mm.OwnB _ _ _ _; rw [List.take_zero, List.flatMap_nil, List.append_nil]; exact HO3.out, HB03.out, HN3.out⟩
  case round =>
    obtain ⟨i, bv, rfl, rfl, hi, HO, HB, HN⟩ := hrel
    rcases Nat.lt_or_ge i n with hlt | hge
    · rcases HEL.out with h0 | ⟨blk, rfl, hbl, hel⟩
      · omega
      obtain ⟨s, hs⟩ : ∃ s, ws[i]? = some s := ⟨_, List.getElem?_eq_getElem (by rw [← HNN.out]; exact hlt)⟩
      obtain ⟨f0, f1, f2, f3, g0, g1, g2, g3, hrep⟩ := hel i s hs
      have HWr : Hid (Below W.heap.size W wr) := HW.out.trans (HB.out.mono HWb.out)
      have e0 := (HWr.out.cell (p := ⟨blk, i * 4, none⟩) hbl).trans g0
      have e1 := (HWr.out.cell (p := ⟨blk, i * 4 + 1, none⟩) hbl).trans g1
      have e2 := (HWr.out.cell (p := ⟨blk, i * 4 + 2, none⟩) hbl).trans g2
      have e3 := (HWr.out.cell (p := ⟨blk, i * 4 + 3, none⟩) hbl).trans g3
      have hone := hrep.one
      obtain ⟨la', lc', hcs', _⟩ := hrep.open
      obtain ⟨rfl, rfl, rfl, rfl⟩ : f0 = .int .i64 4 ∧ f1 = .string (Pl.B s) ∧ f2 = .int .i64 0 ∧ f3 = .slice la' 0 lc' := by
        injection hcs' with h0 hcs'
        injection hcs' with h1 hcs'
        injection hcs' with h2 hcs'
        injection hcs' with h3 hcs'
        exact ⟨h0, h1, h2, h3⟩
      have HONE := Pl.hid hone
      have HS := Pl.hid hs
      have hsl : s.length ≤ 1099511627776 := HSS.out s (List.mem_of_getElem? hs)
      clear g0 g1 g2 g3 hrep hcs' hel hs hone
      obtain ⟨q, hq⟩ : ∃ q, q = wr.heap.size := ⟨_, rfl⟩
      have HQ := Pl.hid hq
      clear hq
      go_wp2_with (refine Mm.wp_store4 _ rfl _ _ rfl wr.heap.size _ _ _ _ _ _ (heap_alloc_new wr _) rfl rfl rfl HONE.out ?_; intro w4 hw4 hs4 hg4; have HW4 := Pl.hid hw4; have HG4 := Pl.hid hg4; have HS4 := Pl.hid hs4; clear hw4 hs4 hg4; have q0 := Mm.cellOf (i := 0) (v := .int .i64 4) HW4.out rfl; have q1 := Mm.cellOf (i := 1) (v := .string (Pl.B s)) HW4.out rfl; have q2 := Mm.cellOf (i := 2) (v := .int .i64 0) HW4.out rfl; have q3 := Mm.cellOf (i := 3) (v := .slice la' 0 lc') HW4.out rfl; clear e0 e1 e2 e3)
      have HN4 : Hid (Mm.NB w0 w4) := by
        refine HN.out.trans fun g o hg _ => ?_
        have hgl := (Array.getElem?_eq_some_iff.1 hg).1
        exact (HG4.out.block g (by simp; omega) (fun e => by injection e with e; omega)).trans ((Below.heap_alloc _ _ _ hgl).trans hg)
      have HB4 : Hid (Below base w w4) := by
        have hz : base ≤ wr.heap.size := Nat.le_trans HBB.out HB.out.size
        refine (HB.out.alloc hz (.cells #[.int .i64 0, .string ⟨#[]⟩, .int .i64 0, .slice none 0 0] 31)).grown HG4.out (by simp; omega) (fun k hk => by injection hk with hk; omega)
      have HO4 : Hid (Mm.OwnB w4 base bv (l ++ ([42] ++ Lib.decDigits n ++ Pl.crlf) ++ (ws.take i).flatMap Pl.bulkE)) := (HO.out.keep (w' := wr.alloc (.cells #[.int .i64 0, .string ⟨#[]⟩, .int .i64 0, .slice none 0 0] 31)) (fun g hg => Below.heap_alloc _ _ _ (HO.out.lt g hg).2)).keep fun g hg => HG4.out.block g (by have := (HO.out.lt g hg).2; simp; omega) (fun e => by injection e with e; have := (HO.out.lt g hg).2; omega)
      have hb4 : base ≤ w4.heap.size := Nat.le_trans HBB.out HB4.out.size
      have hlen4 : (l ++ ([42] ++ Lib.decDigits n ++ Pl.crlf) ++ (ws.take i).flatMap Pl.bulkE).length ≤ 1099511627776 := by
        have h1 := Pl.flat_le ws i
        have h2 := HLL.out
        rw [HNN.out]
        unfold Pl.reqE at h2
        simp only [List.length_append] at h2 ⊢
        omega
      refine (lay_bulk (Pl.B s) la' lc' base bv _ W w4 HT.out (HW.out.trans (HB4.out.mono HWb.out)) HWb.out hb4 HO4.out hlen4 (by rw [Pl.B_size]; exact hsl)).mono ?_
      rintro e w5 ⟨v5, rfl, ho5, hb5, hn5⟩
      have HO5 : Hid (Mm.OwnB w5 base v5 (l ++ ([42] ++ Lib.decDigits n ++ Pl.crlf) ++ (ws.take (i + 1)).flatMap Pl.bulkE)) := by
        rw [Pl.flat_take ws i s HS.out, ← List.append_assoc]
        rw [Pl.L_B] at ho5
        exact ho5
      have HB5 := Pl.hid (HB4.out.trans hb5)
      have HN5 := Pl.hid (HN4.out.trans hn5)
      clear ho5 hb5 hn5 q0 q1 q2 q3
      go_wp2_with fail
      go_roundw
      case rel => exact ⟨i + 1, v5, by go_num, rfl, by omega, HO5, HB5, HN5⟩
      case measure => simp [intOf]; omega
    · obtain rfl : i = n := by omega
      go_wp2_with fail
      go_ret
      refine ⟨_, rfl, ?_, HB.out, (Mm.NB.below HB0.out).trans HN.out⟩
      have h := HO.out
      rw [HNN.out, List.take_length] at h
      unfold Pl.reqE
      simpa using h
end Go.Proofs.YtakldjdohgmeiaaDoor
