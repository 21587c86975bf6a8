/- reply's reader: a reply within so many arrays. Conditions stand in each law. reply.Decode of any bytes. Conditions stand in each law. pantrylaw16.alike, pantrylaw16.alike: the same tree is told to be the same. Condition: both read. reply's Encode of any reply. Conditions stand in each law. The makers of arrays of replies. Conditions stand in each law. What is read from the left of bytes: a right reply that is broken off is too short; what pantrylaw16's plain makes of a reply; plain Lean. Conditions stand in each law. pantrylaw16's wakes. Conditions stand in the law. Conditions stand in each law. -/
import Derived.Test.YtakldjdohgmeiaaDoorBuReplyForm10
import Derived.Test.YtakldjdohgmeiaaDoorBuReplyForm3
import Derived.BigRegion
import Derived.Deep.RegionLaw
import Derived.Test.YtakldjdohgmeiaaDoorBuReplyForm9
import Derived.Test.YtakldjdohgmeiaaDoorBuReplyForm4
import Derived.Lib.SlBytesConst
namespace Go.Proofs.YtakldjdohgmeiaaDoor
open Go.RowKit
set_option maxRecDepth 20000

namespace Mm
open Pl
/-- where the walk stands: the result's cells, the reader's cell -/
def StZ (w wk : World) (p r : Nat) : Prop := w.grownBy wk (some p) ∧ wk.heap[r]? = some (.cells #[.int .i64 0, .string ⟨#[]⟩, .int .i64 0, .slice none 0 0] 31 (0, 0)) ∧ r = w.heap.size ∧ p < w.heap.size
def StD (W w wk : World) (p r : Nat) (v : Value) (l : List UInt8) : Prop := StZ w wk p r ∧ wk.heap[p]? = some (.cells #[v] 79 (0, 0)) ∧ Bs W v l
theorem StZ.fin {w wk wf : World} {p r : Nat} (h : StZ w wk p r) (hg : wk.grownBy wf (some r)) : w.grownBy wf (some p) :=
  grown_step h.1 hg (fun k hk => by injection hk with hk; right; rw [← hk, h.2.2.1]; exact Nat.le_refl _)
theorem StD.fin {W w wk wf : World} {p r : Nat} {v : Value} {l : List UInt8} (h : StD W w wk p r v l) (hg : wk.grownBy wf (some r)) : Rd W wf p l :=
  ⟨v, (hg.block p (Nat.lt_of_lt_of_le h.1.2.2.2 h.1.1.size) (fun e => by injection e with e; have := h.1.2.2; omega)).trans h.2.1, h.2.2⟩
theorem StZ.base {W w wk : World} {p r : Nat} (h : StZ w wk p r) (hw : Below W.heap.size W w) (hp : W.heap.size ≤ p) : Below W.heap.size W wk :=
  hw.grown h.1 hw.size (fun k hk => by injection hk with hk; omega)
theorem StZ.rlt {w wk : World} {p r : Nat} (h : StZ w wk p r) : r < wk.heap.size ∧ p < wk.heap.size := ⟨(Array.getElem?_eq_some_iff.1 h.2.1).1, Nat.lt_of_lt_of_le h.2.2.2 h.1.size⟩
theorem StZ.below {w wk w' : World} {p r : Nat} (h : StZ w wk p r) (hb : Below wk.heap.size wk w') : StZ w w' p r :=
  ⟨grown_low h.1 hb h.1.size, (hb.block r h.rlt.1).trans h.2.1, h.2.2⟩
theorem StD.below {W w wk w' : World} {p r : Nat} {v : Value} {l : List UInt8} (h : StD W w wk p r v l) (hb : Below wk.heap.size wk w') : StD W w w' p r v l :=
  ⟨h.1.below hb, (hb.block p h.1.rlt.2).trans h.2.1, h.2.2⟩
theorem StZ.grown {w wk w' : World} {p r : Nat} (h : StZ w wk p r) (hg : wk.grownBy w' (some p)) : StZ w w' p r :=
  ⟨grown_step h.1 hg (fun k hk => .inl hk.symm), (hg.block r h.rlt.1 (fun e => by injection e with e; have := h.2.2; omega)).trans h.2.1, h.2.2⟩
theorem StZ.rd {W w wk : World} {p r : Nat} {l : List UInt8} (h : StZ w wk p r) (hr : Rd W wk p l) : ∃ v, StD W w wk p r v l := by
  obtain ⟨v, h1, h2⟩ := hr
  exact ⟨v, h, h1, h2⟩
theorem OwnL.keepAt {w w' : World} {lo : Nat} {v : Value} {ts : List RT} (h : OwnL w lo v ts) (hb : ∀ g, lo ≤ g → g < w.heap.size → w'.heap[g]? = w.heap[g]?) : OwnL w' lo v ts := h.keepLo hb
theorem StZ.lowB {w wk w' : World} {p r B : Nat} (h : StZ w wk p r) (hb : Below B wk w') (hr : r < B) : StZ w w' p r :=
  ⟨grown_low h.1 hb (by have := h.2.2; omega), (hb.block r hr).trans h.2.1, h.2.2⟩
theorem StD.lowB {W w wk w' : World} {p r B : Nat} {v : Value} {l : List UInt8} (h : StD W w wk p r v l) (hb : Below B wk w') (hr : r < B) : StD W w w' p r v l :=
  ⟨h.1.lowB hb hr, (hb.block p (by have := h.1.2.2; omega)).trans h.2.1, h.2.2⟩
theorem StD.other {W w wk w' : World} {p r x : Nat} {v : Value} {l : List UInt8} (h : StD W w wk p r v l) (hg : wk.grownBy w' (some x)) (hx : r < x) : StD W w w' p r v l :=
  ⟨⟨grown_step h.1.1 hg (fun k hk => by injection hk with hk; right; have := h.1.2.2; omega), (hg.block r h.1.rlt.1 (fun e => by injection e with e; omega)).trans h.1.2.1, h.1.2.2⟩,
   (hg.block p h.1.rlt.2 (fun e => by injection e with e; have := h.1.2.2; omega)).trans h.2.1, h.2.2⟩
/-- a world like the later one below the earlier one's size -/
theorem trunc {wr w5 : World} {p : Nat} (h : wr.grownBy w5 (some p)) : ∃ w0 : World, w0.heap.size = wr.heap.size ∧ (∀ g, g < wr.heap.size → g ≠ p → w0.heap[g]? = wr.heap[g]?) ∧ Below w0.heap.size w0 w5 := by
  have hs : (w5.heap.extract 0 wr.heap.size).size = wr.heap.size := by
    rw [Array.size_extract]
    have := h.size
    omega
  have hg : ∀ g, g < wr.heap.size → (w5.heap.extract 0 wr.heap.size)[g]? = w5.heap[g]? := fun g hlt => by
    rw [Array.getElem?_extract]
    have := h.size
    rw [if_pos (by omega), Nat.zero_add]
  refine ⟨{ w5 with heap := w5.heap.extract 0 wr.heap.size }, hs, fun g hlt hne => (hg g hlt).trans (h.block g hlt (fun e => hne (by injection e))), ⟨rfl, rfl, rfl, ?_, fun g hlt => ?_⟩⟩
  · show (w5.heap.extract 0 wr.heap.size).size ≤ _
    rw [hs]
    exact h.size
  · have hlt' : g < (w5.heap.extract 0 wr.heap.size).size := hlt
    exact (hg g (by rw [← hs]; exact hlt')).symm
end Mm

namespace RT
theorem arrR_bad {c : Int} (h : c ≠ 0) : arrR (c, [], []) = (c, nul, []) := by unfold arrR; rw [if_neg h]
theorem arrR_ok (ts : List RT) (r : List UInt8) : arrR (0, ts, r) = (0, .mk 6 ⟨#[]⟩ 0 ts, r) := by unfold arrR; rw [if_pos rfl]
theorem dec_len {d : Nat} {l : List UInt8} (h : (decR d l).1 = 0) : (decR d l).2.2.length ≤ l.length := by
  obtain ⟨_, _, _, e⟩ := dec_back d l (decR d l).2.1 (decR d l).2.2 (by rw [← h])
  have := congrArg List.length e
  rw [List.length_append] at this
  omega
end RT
namespace RT
open Pl
theorem num3 (v : Int) (r : List UInt8) : numR 3 v r = .one (.mk 3 ⟨#[]⟩ v []) r := by unfold numR; rw [if_pos rfl]
theorem num4n (r : List UInt8) : numR 4 (-1) r = .one (.mk 5 ⟨#[]⟩ 0 []) r := by simp [numR]
theorem num5n (r : List UInt8) : numR 5 (-1) r = .one (.mk 7 ⟨#[]⟩ 0 []) r := by simp [numR]
theorem numL {k v : Int} (r : List UInt8) (hk : k ≠ 3) (hv : 16777216 < v) : numR k v r = .bad 2 := by unfold numR; rw [if_neg hk, if_neg (by omega), if_pos hv]
theorem num4 {k : Nat} (r : List UInt8) (hk : k ≤ 16777216) : numR 4 (k : Int) r = if (bulkR k r).1 = 0 then .one (.mk 4 (B (bulkR k r).2.1) 0 []) (bulkR k r).2.2 else .bad (bulkR k r).1 := by
  unfold numR; rw [if_neg (by decide), if_neg (by omega), if_neg (by omega), if_pos rfl, Int.toNat_natCast]
theorem num5 {k : Nat} (r : List UInt8) (hk : k ≤ 16777216) : numR 5 (k : Int) r = .arr k r := by
  unfold numR; rw [if_neg (by decide), if_neg (by omega), if_neg (by omega), if_neg (by decide), Int.toNat_natCast]
end RT

set_option maxHeartbeats 16000000 in
theorem rreply_step (W : World) (p d : Nat) (hd : d ≤ 8) (hp : W.heap.size ≤ p) (hU : Mm.U8 W) (hX : Mm.MaxI W) (hE : Mm.Errs W) (IH : ∀ d', d = d' + 1 → Mm.ReadC W p d') : Mm.ReadC W p d := by
  intro l v hv hl w hw hr
  obtain ⟨q, hq⟩ : ∃ q, q = RT.decR d l := ⟨_, rfl⟩
  rw [← hq]
  obtain ⟨D, hD⟩ : ∃ D : Int, D = 8 - (d : Int) := ⟨_, rfl⟩
  rw [← hD]
  have hDr : 0 ≤ D ∧ D ≤ 8 := by omega
  have HDD := Pl.hid hD
  clear hD
  obtain ⟨a, c, rfl⟩ : ∃ a c, v = .slice a l.length c := by obtain ⟨a, c, h, _⟩ := hv; exact ⟨a, c, h⟩
  have HQ := Pl.hid hq
  have HV := Pl.hid hv
  have HW := Pl.hid hw
  have HR := Pl.hid hr
  have HU := Pl.hid hU
  have HX := Pl.hid hX
  have HE := Pl.hid hE
  have HIH := Pl.hid IH
  have HP := Pl.hid hp
  have HPL : Hid (p < w.heap.size) := (Array.getElem?_eq_some_iff.1 hr).1
  obtain ⟨N, hN⟩ : ∃ N, N = l.length := ⟨_, rfl⟩
  rw [← hN] at HV HR hl
  have HN := Pl.hid hN
  clear hq hv hw hr hU hX hE IH hp hN
  obtain ⟨w1, hw1⟩ : ∃ w1, w.alloc (.cells #[.int .i64 0, .string ⟨#[]⟩, .int .i64 0, .slice none 0 0] 31) = w1 := ⟨_, rfl⟩
  obtain ⟨r, hr⟩ : ∃ r, w.heap.size = r := ⟨_, rfl⟩
  have S1 : Hid (Mm.StD W w w1 p r (.slice a N c) l) := by
    refine ⟨⟨?_, ?_, hr.symm, HPL.out⟩, ?_, HV.out⟩
    · rw [← hw1]; exact Mm.grown_below ((Below.refl _ _).alloc (Nat.le_refl _) _)
    · rw [← hw1, ← hr]; exact heap_alloc_new w _
    · rw [← hw1]; exact (((Below.refl w.heap.size w).alloc (Nat.le_refl _) _).block p HPL.out).trans HR.out
  have k1 := Mm.cell_of S1.out.2.1 (i := 0) rfl
  cases l with
  | nil =>
    have hN0 : N = 0 := HN.out
    subst hN0
    obtain rfl := HQ.out.trans (RT.decR_bad (c := 5) rfl d)
    go_enter Tryd.func52, Tryd.ntmps52
    go_wp2_with (refine Mm.wp_store4 _ rfl _ _ rfl r _ _ _ _ _ _ S1.out.1.2.1 rfl rfl rfl Mm.leaf_one ?_; intro wf hwf hsf hgf; clear hsf; have HWF := Pl.hid hwf; have HGF := Pl.hid hgf; clear hwf hgf)
    refine bodyPost_ret (Mm.res_cell_tmp rfl _ wf r _ _ _ _ _ _ rfl HWF.out) rfl ?_
    exact ⟨_, _, _, _, rfl, Mm.zero_own _ _, Mm.DecP.bad (S1.out.fin HGF.out) (by decide), S1.out.1.fin HGF.out⟩
  | cons f l' =>
    have hN1 : 1 ≤ N := by rw [HN.out]; simp
    have hN0 : ((N : Int) == 0) = false := beq_eq_false_iff_ne.2 (by omega)
    obtain ⟨g, o, c', he, hc', hm⟩ := HV.out.some (by simp)
    injection he with e1 e2 e3
    subst e1 e3
    have c0 := (hm 0 (by simp))
    have HB1 := Pl.hid (S1.out.1.base HW.out HP.out)
    have d0 := (HB1.out.cell (p := ⟨g, o + 0, none⟩) (World.block_lt_of_cell? _ _ c0)).trans c0
    rw [show Pl.at_ (f :: l') 0 = (f.toNat : Int) from rfl, Nat.add_zero] at d0
    clear c0 hm hc' e2
    obtain ⟨M, hM⟩ : ∃ M, M = l'.length := ⟨_, rfl⟩
    have HM := Pl.hid hM
    have HBSL : Hid (∀ v1, v1 = sliced (some ⟨g, o, none⟩) 1 N c 1 → ∃ a1 c1, v1 = .slice a1 M c1 ∧ Hid (Mm.Bs W v1 l')) := fun v1 h1 => by
      have hb := Mm.bs_sliced (s := [f]) (r := l') (k := 1) (show Mm.Bs W (.slice (some ⟨g, o, none⟩) N c) ([f] ++ l') from HV.out) rfl
      rw [← h1] at hb
      obtain ⟨a1, c1, he, _⟩ := id hb
      exact ⟨a1, c1, by rw [he, HM.out], hb⟩
    clear hM
    obtain ⟨J, hJ⟩ : ∃ J, J = RT.kd f - 1 := ⟨_, rfl⟩
    have HJ : Hid (RT.kd f = J + 1) := by show _ = _; omega
    have hJr : -1 ≤ J ∧ J ≤ 4 := by have := RT.kd_range f; omega
    have h36 := RT.kd36 f
    rw [HJ.out] at h36
    have HKI : Hid (Lib.indexByte (⟨#[43, 45, 58, 36, 42]⟩ : ByteArray).data.toList ((f.toNat : Int)).toNat.toUInt8 = J) := by
      show _ = _
      rw [Lib.byte_back, show (⟨#[43, 45, 58, 36, 42]⟩ : ByteArray).data.toList = [43, 45, 58, 36, 42] from rfl, RT.kdx, hJ]
    clear hJ
    by_cases hK0 : J = -1
    · subst hK0
      obtain rfl := HQ.out.trans (RT.decR_bad (RT.hd0 (by rw [HJ.out]; rfl)) d)
      go_enter Tryd.func52, Tryd.ntmps52
      go_wp2_with (first | (go_at_call 64; refine (Tryd.strings_IndexByte _ _ _).mono ?_; rintro e w' ⟨rfl, hw'⟩; rw [hw', HKI.out]; clear hw') | (refine Mm.wp_store4 _ rfl _ _ rfl r _ _ _ _ _ _ S1.out.1.2.1 rfl rfl rfl Mm.leaf_one ?_; intro wf hwf hsf hgf; clear hsf; have HWF := Pl.hid hwf; have HGF := Pl.hid hgf; clear hwf hgf))
      refine bodyPost_ret (Mm.res_cell_tmp rfl _ wf r _ _ _ _ _ _ rfl HWF.out) rfl ?_
      exact ⟨_, _, _, _, rfl, Mm.zero_own _ _, Mm.DecP.bad (S1.out.fin HGF.out) (by decide), S1.out.1.fin HGF.out⟩
    · have hJ0 : ((J + 1 : Int) == 0) = false := beq_eq_false_iff_ne.2 (by omega)
      have hfz := Mm.frozen_of (i := 0) S1.out.2.1
      go_enter Tryd.func52, Tryd.ntmps52
      go_wp2_with (first | (go_at_call 64; refine (Tryd.strings_IndexByte _ _ _).mono ?_; rintro e w' ⟨rfl, hw'⟩; rw [hw', HKI.out]; clear hw') | (refine Mm.wp_sliceL w1 rfl _ _ rfl (some ⟨g, o, none⟩) N c 1 (by rfl) (by rfl) hN1 ?_; intro v1 hv1; obtain ⟨a1, c1, rfl, HBS⟩ := HBSL.out v1 hv1; clear hv1))
      generalize hw2 : World.setCell w1 _ _ = w2
      have S2 : Hid (Mm.StD W w w2 p r (.slice a1 M c1) l') := by
        have hs1 := S1.out
        refine ⟨hs1.1.grown (by rw [← hw2]; exact Mm.grown_set _ _ _ _), ?_, HBS.out⟩
        rw [← hw2]
        exact Mm.heap_set hs1.2.1 0 _
      clear hw2 hfz d0
      refine (rline_walk W p _ l' S2.out.2.2 (by have := HN.out; simp only [List.length_cons] at this; omega) HU.out HX.out w2 (S2.out.1.base HW.out HP.out) HP.out S2.out.2.1).mono ?_
      rintro e w3 ⟨rfl, hl3, hg3⟩
      have HL3 := Pl.hid hl3
      have S3 := Pl.hid (S2.out.1.grown hg3)
      obtain ⟨z3, hz3⟩ := hl3.1
      obtain ⟨y3, hy3⟩ := S3.out.rd hz3
      have Z3 := Pl.hid hy3
      clear hl3 hg3 hz3 hy3
      obtain ⟨cd, hcd⟩ : ∃ cd, cd = (Pl.lineR l').1 := ⟨_, rfl⟩
      obtain ⟨tx, htx⟩ : ∃ tx, tx = (Pl.lineR l').2.1 := ⟨_, rfl⟩
      obtain ⟨rs, hrs⟩ : ∃ rs, rs = (Pl.lineR l').2.2 := ⟨_, rfl⟩
      rw [← hcd, ← htx]
      have HCD := Pl.hid hcd
      have HTX := Pl.hid htx
      have HRS := Pl.hid hrs
      clear hcd htx hrs
      have HKN : Hid (RT.kd f ≠ 0) := by show _ ≠ _; rw [HJ.out]; omega
      by_cases hc0 : cd = 0
      · subst hc0
        obtain ⟨v3, hs3⟩ := S3.out.rd (HL3.out.2 HCD.out.symm)
        rw [← HRS.out] at hs3
        have T3 := Pl.hid hs3
        clear hs3
        have hkd : RT.hdR (f :: l') = if J + 1 ≤ 2 then .one (.mk (J + 1) (Pl.B tx) 0 []) rs else if Pl.rIc tx ≠ 0 ∨ (3 < J + 1 ∧ Pl.rIv tx < -1) then .bad 160 else RT.numR (J + 1) (Pl.rIv tx) rs := by
          rw [HTX.out, HRS.out, ← HJ.out]
          by_cases h2 : RT.kd f ≤ 2
          · rw [if_pos h2]; exact RT.hd2 HKN.out HCD.out.symm h2
          · rw [if_neg h2]
            by_cases h3 : Pl.rIc (Pl.lineR l').2.1 ≠ 0 ∨ (3 < RT.kd f ∧ Pl.rIv (Pl.lineR l').2.1 < -1)
            · rw [if_pos h3]; exact RT.hd3 HKN.out HCD.out.symm h2 h3
            · rw [if_neg h3]; exact RT.hd4 HKN.out HCD.out.symm h2 h3
        by_cases hJ2 : J + 1 ≤ 2
        · rw [if_pos hJ2] at hkd
          obtain rfl := HQ.out.trans (RT.decR_one hkd d)
          clear hkd
          go_wp2_with (refine Mm.wp_store4 _ rfl _ _ rfl r _ _ _ _ _ _ T3.out.1.2.1 rfl rfl rfl Mm.leaf_one ?_; intro wf hwf hsf hgf; clear hsf; have HWF := Pl.hid hwf; have HGF := Pl.hid hgf; clear hwf hgf)
          refine bodyPost_ret (Mm.res_cell_tmp rfl _ wf r _ _ _ _ _ _ rfl HWF.out) rfl ?_
          exact ⟨_, _, _, _, rfl, Mm.leaf_own _ _ _ _ _, Mm.DecP.ok (T3.out.fin HGF.out), T3.out.1.fin HGF.out⟩
        · rw [if_neg hJ2] at hkd
          have HKD := Pl.hid hkd
          have htl : (Pl.B tx).size ≤ 140737488351232 := by
            have h1 := Pl.line_back (l := l') HCD.out.symm
            have h2 := congrArg List.length h1.2
            rw [← HTX.out, List.length_append] at h2
            have h3 := HN.out
            rw [List.length_cons] at h3
            rw [Pl.B_size]
            omega
          have HTL := Pl.hid htl
          clear hkd htl
          go_wp2_with fail
          refine (int_walk (Pl.B tx) w3 HTL.out (HE.out.on (S3.out.base HW.out HP.out))).mono ?_
          rintro e w4 ⟨rfl, hb4⟩
          have T4 := Pl.hid (T3.out.below hb4)
          clear hb4
          rw [Pl.L_B]
          obtain ⟨n, hn⟩ : ∃ n, n = Pl.rIv tx := ⟨_, rfl⟩
          obtain ⟨ec, hec⟩ : ∃ ec, ec = Pl.rIc tx := ⟨_, rfl⟩
          have HNI : Hid (Pl.In64 n) := by show Pl.In64 n; rw [hn]; exact Pl.rIv_in tx
          rw [← hn, ← hec] at HKD ⊢
          clear hn hec
          by_cases hbad : ec ≠ 0 ∨ (3 < J + 1 ∧ n < -1)
          · have hk2 := HKD.out
            rw [if_pos hbad] at hk2
            obtain rfl := HQ.out.trans (RT.decR_bad hk2 d)
            clear hk2
            by_cases he0 : ec = 0
            · subst he0
              have hb2 : 3 < J + 1 ∧ n < -1 := by
                rcases hbad with h | h
                · exact absurd rfl h
                · exact h
              obtain ⟨hb3, hb4⟩ := hb2
              clear hbad
              go_wp2_with (refine Mm.wp_store4 _ rfl _ _ rfl r _ _ _ _ _ _ T4.out.1.2.1 rfl rfl rfl Mm.leaf_one ?_; intro wf hwf hsf hgf; clear hsf; have HWF := Pl.hid hwf; have HGF := Pl.hid hgf; clear hwf hgf)
              refine bodyPost_ret (Mm.res_cell_tmp rfl _ wf r _ _ _ _ _ _ rfl HWF.out) rfl ?_
              exact ⟨_, _, _, _, rfl, Mm.zero_own _ _, Mm.DecP.bad (T4.out.fin HGF.out) (by decide), T4.out.1.fin HGF.out⟩
            · have heb : ((ec : Int) != 0) = true := bne_iff_ne.2 he0
              clear hbad he0
              go_wp2_with (refine Mm.wp_store4 _ rfl _ _ rfl r _ _ _ _ _ _ T4.out.1.2.1 rfl rfl rfl Mm.leaf_one ?_; intro wf hwf hsf hgf; clear hsf; have HWF := Pl.hid hwf; have HGF := Pl.hid hgf; clear hwf hgf)
              refine bodyPost_ret (Mm.res_cell_tmp rfl _ wf r _ _ _ _ _ _ rfl HWF.out) rfl ?_
              exact ⟨_, _, _, _, rfl, Mm.zero_own _ _, Mm.DecP.bad (T4.out.fin HGF.out) (by decide), T4.out.1.fin HGF.out⟩
          · have hk2 := HKD.out
            rw [if_neg hbad] at hk2
            have HK2 := Pl.hid hk2
            have he0 : ec = 0 := by
              by_cases h : ec = 0
              · exact h
              · exact absurd (.inl h) hbad
            have hn1 : 3 < J + 1 → -1 ≤ n := fun h => by
              by_cases h' : n < -1
              · exact absurd (.inr ⟨h, h'⟩) hbad
              · omega
            subst he0
            clear hk2 hbad
            rcases (show J = 2 ∨ J = 3 ∨ J = 4 by omega) with rfl | rfl | rfl
            · have hk3 := HK2.out
              rw [show (2 : Int) + 1 = 3 from rfl, RT.num3] at hk3
              obtain rfl := HQ.out.trans (RT.decR_one hk3 d)
              clear hk3 hn1 h36
              go_wp2_with (first | (go_at_call 29; refine (mk_int n w4).mono ?_; rintro e w5 ⟨rfl, hb5⟩; have T5 := Pl.hid (T4.out.below hb5); clear hb5) | (refine Mm.wp_store4 _ rfl _ _ rfl r _ _ _ _ _ _ T5.out.1.2.1 rfl rfl rfl Mm.leaf_one ?_; intro wf hwf hsf hgf; clear hsf; have HWF := Pl.hid hwf; have HGF := Pl.hid hgf; clear hwf hgf))
              refine bodyPost_ret (Mm.res_cell_tmp rfl _ wf r _ _ _ _ _ _ rfl HWF.out) rfl ?_
              exact ⟨_, _, _, _, rfl, Mm.leaf_own _ _ _ _ _, Mm.DecP.ok (T5.out.fin HGF.out), T5.out.1.fin HGF.out⟩
            · rw [show decide ((3 : Int) + 1 = 4) = true from rfl] at h36
              have hn2 := hn1 (by decide)
              clear hn1
              have hk3 := HK2.out
              rw [show (3 : Int) + 1 = 4 from rfl] at hk3
              by_cases hm1 : n = -1
              · subst hm1
                rw [RT.num4n] at hk3
                obtain rfl := HQ.out.trans (RT.decR_one hk3 d)
                clear hk3
                go_wp2_with (first | (go_at_call 33; refine (mk_null w4).mono ?_; rintro e w5 ⟨rfl, hb5⟩; have T5 := Pl.hid (T4.out.below hb5); clear hb5) | (refine Mm.wp_store4 _ rfl _ _ rfl r _ _ _ _ _ _ T5.out.1.2.1 rfl rfl rfl Mm.leaf_one ?_; intro wf hwf hsf hgf; clear hsf; have HWF := Pl.hid hwf; have HGF := Pl.hid hgf; clear hwf hgf))
                refine bodyPost_ret (Mm.res_cell_tmp rfl _ wf r _ _ _ _ _ _ rfl HWF.out) rfl ?_
                exact ⟨_, _, _, _, rfl, Mm.leaf_own _ _ _ _ _, Mm.DecP.ok (T5.out.fin HGF.out), T5.out.1.fin HGF.out⟩
              · have hb1 : ((n : Int) == -1) = false := beq_eq_false_iff_ne.2 hm1
                by_cases hbig : 16777216 < n
                · rw [RT.numL rs (by decide) hbig] at hk3
                  obtain rfl := HQ.out.trans (RT.decR_bad hk3 d)
                  clear hk3
                  go_wp2_with (refine Mm.wp_store4 _ rfl _ _ rfl r _ _ _ _ _ _ T4.out.1.2.1 rfl rfl rfl Mm.leaf_one ?_; intro wf hwf hsf hgf; clear hsf; have HWF := Pl.hid hwf; have HGF := Pl.hid hgf; clear hwf hgf)
                  refine bodyPost_ret (Mm.res_cell_tmp rfl _ wf r _ _ _ _ _ _ rfl HWF.out) rfl ?_
                  exact ⟨_, _, _, _, rfl, Mm.zero_own _ _, Mm.DecP.bad (T4.out.fin HGF.out) (by decide), T4.out.1.fin HGF.out⟩
                · obtain ⟨k, rfl⟩ := Int.eq_ofNat_of_zero_le (show 0 ≤ n by omega)
                  have hkb : k ≤ 16777216 := by omega
                  rw [RT.num4 rs hkb] at hk3
                  have HK3 := Pl.hid hk3
                  have hrl : rs.length < 9223372036854775807 := by
                    have h1 := Pl.line_back (l := l') HCD.out.symm
                    have h2 := congrArg List.length h1.2
                    rw [← HRS.out, List.length_append, List.length_cons, List.length_cons] at h2
                    have h3 := HN.out
                    rw [List.length_cons] at h3
                    omega
                  have HBK := Pl.hid (rbulk_walk W p v3 rs k hkb T4.out.2.2 hrl w4 (T4.out.1.base HW.out HP.out) T4.out.2.1)
                  clear hk3 hrl
                  go_wp2_with fail
                  refine HBK.out.mono ?_
                  rintro e w5 ⟨rfl, hl5, hg5⟩
                  have HL5 := Pl.hid hl5
                  have S5 := Pl.hid (T4.out.1.grown hg5)
                  obtain ⟨z5, hz5⟩ := hl5.1
                  obtain ⟨y5, hy5⟩ := S5.out.rd hz5
                  have Z5 := Pl.hid hy5
                  clear hl5 hg5 HBK hz5 hy5
                  obtain ⟨cb, hcb⟩ : ∃ cb, cb = (RT.bulkR k rs).1 := ⟨_, rfl⟩
                  obtain ⟨tb, htb⟩ : ∃ tb, tb = (RT.bulkR k rs).2.1 := ⟨_, rfl⟩
                  obtain ⟨rb, hrb⟩ : ∃ rb, rb = (RT.bulkR k rs).2.2 := ⟨_, rfl⟩
                  have hk4 := HK3.out
                  rw [← hcb, ← htb, ← hrb] at hk4
                  rw [← hcb, ← htb]
                  have HCB := Pl.hid hcb
                  have HRB := Pl.hid hrb
                  clear hcb htb hrb
                  by_cases hc0 : cb = 0
                  · subst hc0
                    rw [if_pos rfl] at hk4
                    obtain rfl := HQ.out.trans (RT.decR_one hk4 d)
                    clear hk4
                    obtain ⟨v6, hs6⟩ := S5.out.rd (HL5.out.2 HCB.out.symm)
                    rw [← HRB.out] at hs6
                    have T6 := Pl.hid hs6
                    clear hs6
                    go_wp2_with (first | (go_at_call 31; refine (mk_bulk (Pl.B tb) w5).mono ?_; rintro e w7 ⟨rfl, hb7⟩; have T7 := Pl.hid (T6.out.below hb7); clear hb7) | (refine Mm.wp_store4 _ rfl _ _ rfl r _ _ _ _ _ _ T7.out.1.2.1 rfl rfl rfl Mm.leaf_one ?_; intro wf hwf hsf hgf; clear hsf; have HWF := Pl.hid hwf; have HGF := Pl.hid hgf; clear hwf hgf))
                    refine bodyPost_ret (Mm.res_cell_tmp rfl _ wf r _ _ _ _ _ _ rfl HWF.out) rfl ?_
                    exact ⟨_, _, _, _, rfl, Mm.leaf_own _ _ _ _ _, Mm.DecP.ok (T7.out.fin HGF.out), T7.out.1.fin HGF.out⟩
                  · rw [if_neg hc0] at hk4
                    obtain rfl := HQ.out.trans (RT.decR_bad hk4 d)
                    have hcbb : ((cb : Int) != 0) = true := bne_iff_ne.2 hc0
                    have HC0 := Pl.hid hc0
                    clear hk4 hc0
                    go_wp2_with (refine Mm.wp_store4 _ rfl _ _ rfl r _ _ _ _ _ _ S5.out.2.1 rfl rfl rfl Mm.leaf_one ?_; intro wf hwf hsf hgf; clear hsf; have HWF := Pl.hid hwf; have HGF := Pl.hid hgf; clear hwf hgf)
                    refine bodyPost_ret (Mm.res_cell_tmp rfl _ wf r _ _ _ _ _ _ rfl HWF.out) rfl ?_
                    exact ⟨_, _, _, _, rfl, Mm.zero_own _ _, Mm.DecP.bad (Z5.out.fin HGF.out) HC0.out, S5.out.fin HGF.out⟩
            · rw [show decide ((4 : Int) + 1 = 4) = false from rfl] at h36
              have hn2 := hn1 (by decide)
              clear hn1
              have hk3 := HK2.out
              rw [show (4 : Int) + 1 = 5 from rfl] at hk3
              by_cases hm1 : n = -1
              · subst hm1
                rw [RT.num5n] at hk3
                obtain rfl := HQ.out.trans (RT.decR_one hk3 d)
                clear hk3
                go_wp2_with (refine Mm.wp_store4 _ rfl _ _ rfl r _ _ _ _ _ _ T4.out.1.2.1 rfl rfl rfl Mm.leaf_one ?_; intro wf hwf hsf hgf; clear hsf; have HWF := Pl.hid hwf; have HGF := Pl.hid hgf; clear hwf hgf)
                refine bodyPost_ret (Mm.res_cell_tmp rfl _ wf r _ _ _ _ _ _ rfl HWF.out) rfl ?_
                exact ⟨_, _, _, _, rfl, Mm.leaf_own _ _ _ _ _, Mm.DecP.ok (T4.out.fin HGF.out), T4.out.1.fin HGF.out⟩
              · have hb1 : ((n : Int) == -1) = false := beq_eq_false_iff_ne.2 hm1
                by_cases hbig : 16777216 < n
                · rw [RT.numL rs (by decide) hbig] at hk3
                  obtain rfl := HQ.out.trans (RT.decR_bad hk3 d)
                  clear hk3
                  go_wp2_with (refine Mm.wp_store4 _ rfl _ _ rfl r _ _ _ _ _ _ T4.out.1.2.1 rfl rfl rfl Mm.leaf_one ?_; intro wf hwf hsf hgf; clear hsf; have HWF := Pl.hid hwf; have HGF := Pl.hid hgf; clear hwf hgf)
                  refine bodyPost_ret (Mm.res_cell_tmp rfl _ wf r _ _ _ _ _ _ rfl HWF.out) rfl ?_
                  exact ⟨_, _, _, _, rfl, Mm.zero_own _ _, Mm.DecP.bad (T4.out.fin HGF.out) (by decide), T4.out.1.fin HGF.out⟩
                · obtain ⟨k, rfl⟩ := Int.eq_ofNat_of_zero_le (show 0 ≤ n by omega)
                  have hkb : k ≤ 16777216 := by omega
                  rw [RT.num5 rs hkb] at hk3
                  cases d with
                  | zero =>
                    obtain rfl := HQ.out.trans (RT.decR_deep hk3)
                    obtain rfl : D = 8 := HDD.out
                    clear hk3
                    go_wp2_with (refine Mm.wp_store4 _ rfl _ _ rfl r _ _ _ _ _ _ T4.out.1.2.1 rfl rfl rfl Mm.leaf_one ?_; intro wf hwf hsf hgf; clear hsf; have HWF := Pl.hid hwf; have HGF := Pl.hid hgf; clear hwf hgf)
                    refine bodyPost_ret (Mm.res_cell_tmp rfl _ wf r _ _ _ _ _ _ rfl HWF.out) rfl ?_
                    exact ⟨_, _, _, _, rfl, Mm.zero_own _ _, Mm.DecP.bad (T4.out.fin HGF.out) (by decide), T4.out.1.fin HGF.out⟩
                  | succ d' =>
                    have hD8 : ((D : Int) == 8) = false := beq_eq_false_iff_ne.2 (by have := HDD.out; omega)
                    have HQQ := Pl.hid (HQ.out.trans (RT.decR_arr hk3 d'))
                    have HIH' := Pl.hid (HIH.out d' rfl)
                    have HDE : Hid ((8 : Int) - (d' : Int) = D + 1) := by show _ = _; have := HDD.out; omega
                    obtain ⟨x, hx⟩ : ∃ x, w4.heap.size = x := ⟨_, rfl⟩
                    have hrl : rs.length ≤ 100000000 := by
                      have h1 := Pl.line_back (l := l') HCD.out.symm
                      have h2 := congrArg List.length h1.2
                      rw [← HRS.out, List.length_append, List.length_cons, List.length_cons] at h2
                      have h3 := HN.out
                      rw [List.length_cons] at h3
                      omega
                    have HRL := Pl.hid hrl
                    clear hk3 hrl hm1
                    go_wp2_with (refine Mm.wp_store4 _ rfl _ _ rfl x _ _ _ _ _ _ (by rw [← hx]; exact heap_alloc_new w4 _) rfl rfl rfl Mm.leaf_one ?_; intro w5 hw5 hs5 hg5; clear hs5; have HX5 := Pl.hid hw5; have T5 := Pl.hid (T4.out.below (Mm.newcell4 (by rw [hx]; exact hg5))); have HXS : Hid (w.heap.size ≤ x ∧ x < w5.heap.size) := ⟨by rw [← hx]; exact T4.out.1.1.size, (Array.getElem?_eq_some_iff.1 hw5).1⟩; clear hw5 hg5)
                    obtain ⟨lo, hlo⟩ : ∃ lo, lo = w5.heap.size := ⟨_, rfl⟩
                    have HLO : Hid (w.heap.size ≤ x ∧ x < lo ∧ r < x ∧ lo = w5.heap.size) := ⟨HXS.out.1, by rw [hlo]; exact HXS.out.2, by rw [← hx]; exact T4.out.1.rlt.1, hlo⟩
                    have HPR : Hid (r = w.heap.size ∧ p < w.heap.size) := T4.out.1.2.2
                    clear hlo hx h36 hb1 hn2 hbig
                    go_loopw [116] (fun jv wr => ∃ (j : Nat) (ts : List RT) (lv vc : Value) (lc : List UInt8), jv = .int .i64 j ∧ j ≤ k ∧ Hid (wr.heap[x]? = some (.cells #[.int .i64 6, .string ⟨#[]⟩, .int .i64 0, lv] 31 (0, 0))) ∧ Hid (Mm.OwnL wr lo lv ts) ∧ Hid (ts.length = j) ∧
                        Hid (Mm.StD W w wr p r vc lc) ∧ Hid (RT.decN (RT.decR d') (k - j) ts lc = RT.decN (RT.decR d') k [] rs) ∧ Hid (lc.length ≤ 100000000) ∧ Hid (lo ≤ wr.heap.size)) (fun jv _ => k - (intOf jv).toNat)
                    case atStart => exact ⟨0, [], .slice none 0 0, v3, rs, rfl, Nat.zero_le _, HX5.out, Mm.OwnL.nil _ _, rfl, T5.out, rfl, HRL.out, Nat.le_of_eq HLO.out.2.2.2⟩
                    case round =>
                      obtain ⟨j, ts, lv, vc, lc, rfl, hj, HXr, HO, HTL', HS, HDN, HLC, HLr⟩ := hrel
                      have e3 := Mm.cell_of HXr.out (i := 3) rfl
                      rcases Nat.lt_or_ge j k with hlt | hge
                      · have HC := HIH'.out lc vc HS.out.2.2 HLC.out wr (HS.out.1.base HW.out HP.out) HS.out.2.1
                        rw [HDE.out] at HC
                        have HCC := Pl.hid HC
                        clear HC e3
                        go_wp2_with fail
                        refine HCC.out.mono ?_
                        rintro e w6 ⟨c0, c1, c2, c3, rfl, hown, hdp, hg6⟩
                        have HOW := Pl.hid hown
                        have HDP := Pl.hid hdp
                        have HG6 := Pl.hid hg6
                        have S6 := Pl.hid (HS.out.1.grown hg6)
                        obtain ⟨z6, hz6⟩ := hdp.1
                        obtain ⟨y6, hy6⟩ := S6.out.rd hz6
                        have Z6 := Pl.hid hy6
                        have hxr := HLO.out
                        have hpr := HPR.out
                        have HX6 : Hid (w6.heap[x]? = some (.cells #[.int .i64 6, .string ⟨#[]⟩, .int .i64 0, lv] 31 (0, 0))) :=
                          (hg6.block x (Array.getElem?_eq_some_iff.1 HXr.out).1 (fun e => by injection e with e; omega)).trans HXr.out
                        obtain ⟨cc, hcc⟩ : ∃ cc, cc = (RT.decR d' lc).1 := ⟨_, rfl⟩
                        obtain ⟨tt, htt⟩ : ∃ tt, tt = (RT.decR d' lc).2.1 := ⟨_, rfl⟩
                        obtain ⟨lr, hlr⟩ : ∃ lr, lr = (RT.decR d' lc).2.2 := ⟨_, rfl⟩
                        rw [← hcc]
                        rw [← htt] at HOW
                        have HCB := Pl.hid hcc
                        have HTT := Pl.hid htt
                        have HLR := Pl.hid hlr
                        obtain ⟨y, hy⟩ : ∃ y, w6.heap.size = y := ⟨_, rfl⟩
                        have HY : Hid (w6.heap.size = y ∧ x < y ∧ wr.heap.size ≤ y ∧ r < y) := ⟨hy, by rw [← hy]; have := (Array.getElem?_eq_some_iff.1 HX6.out).1; exact this, by rw [← hy]; exact hg6.size, by rw [← hy]; exact S6.out.rlt.1⟩
                        have hkj : k - j = (k - (j + 1)) + 1 := by omega
                        have hdn := HDN.out
                        rw [hkj] at hdn
                        simp only [RT.decN] at hdn
                        rw [← hcc, ← htt, ← hlr] at hdn
                        have HDN2 := Pl.hid hdn
                        clear hown hdp hg6 hz6 hy6 hcc htt hlr hkj hdn hxr hpr HCC
                        by_cases hc0 : cc = 0
                        · subst hc0
                          have hdn := HDN2.out
                          rw [if_pos rfl] at hdn
                          have HDN3 := Pl.hid hdn
                          obtain ⟨v6, hs6⟩ := S6.out.rd (HDP.out.2 HCB.out.symm)
                          rw [← HLR.out] at hs6
                          have T6 := Pl.hid hs6
                          obtain ⟨w0, hz0, hk0, hb0⟩ := Mm.trunc HG6.out
                          have HO0 : Hid (Mm.OwnL w0 lo lv ts) := HO.out.keepAt fun g hg hgl => hk0 g hgl (by have := HLO.out; have := HPR.out; omega)
                          have HB0 := Pl.hid hb0
                          have HZ0 := Pl.hid hz0
                          have HRR := Pl.hid hk0
                          clear hs6 hdn hz0 hk0 hb0
                          have HST : Hid (∀ w7 : World, w7.heap[y]? = some (.cells #[c0, c1, c2, c3] 31 (0, 0)) → Below w6.heap.size w6 w7 → w7.heap[x]? = some (.cells #[.int .i64 6, .string ⟨#[]⟩, .int .i64 0, lv] 31 (0, 0)) ∧
                              w7.cell? ⟨x, 3, none⟩ = some lv ∧ w7.cell? ⟨y, 0, none⟩ = some c0 ∧ w7.cell? ⟨y, 1, none⟩ = some c1 ∧ w7.cell? ⟨y, 2, none⟩ = some c2 ∧ w7.cell? ⟨y, 3, none⟩ = some c3 ∧
                              Hid (Mm.OwnT w7 w0.heap.size tt [c0, c1, c2, c3]) ∧ Hid (Below w0.heap.size w0 w7) ∧ Hid (Mm.StD W w w7 p r v6 lr)) := fun w7 h7 hb7 => by
                            have hx7 := (hb7.block x (by have := HY.out; omega)).trans HX6.out
                            refine ⟨hx7, Mm.cell_of hx7 (i := 3) rfl, Mm.cell_of h7 (i := 0) rfl, Mm.cell_of h7 (i := 1) rfl, Mm.cell_of h7 (i := 2) rfl, Mm.cell_of h7 (i := 3) rfl, ?_, HB0.out.trans (hb7.mono HB0.out.size), T6.out.below hb7⟩
                            show Mm.OwnT _ _ _ _
                            rw [HZ0.out]
                            exact HOW.out.below hb7
                          have HSZ : Hid (ts.length < 1073741824 ∧ lo ≤ w0.heap.size) := ⟨by rw [HTL'.out]; omega, by rw [HZ0.out]; exact HLr.out⟩
                          have HST6 : Hid (∀ (w7 w8 : World), w7.heap[x]? = some (.cells #[.int .i64 6, .string ⟨#[]⟩, .int .i64 0, lv] 31 (0, 0)) → Below lo w7 w8 → w8.heap[x]? = some (.cells #[.int .i64 6, .string ⟨#[]⟩, .int .i64 0, lv] 31 (0, 0))) := fun w7 w8 h7 hb =>
                            (hb.block x HLO.out.2.1).trans h7
                          go_wp2_with (first
                            | (refine Mm.wp_store4 _ rfl _ _ rfl y _ _ _ _ _ _ (by rw [← hy]; exact heap_alloc_new w6 _) rfl rfl rfl HOW.out.one ?_; intro w7 hw7 hs7 hg7; clear hs7; obtain ⟨hx7, x3, q0, q1, q2, q3, HT7, HB7, T7⟩ := HST.out w7 hw7 (Mm.newcell4 (by rw [hy]; exact hg7)); clear hw7 hg7)
                            | (at_builtin; refine Mm.wp_appR _ rfl _ _ (by rfl) w0 w7 lo lv ts (by rfl) HO0.out tt [c0, c1, c2, c3] HT7.out (by rfl) (by rfl) HB7.out HSZ.out.1 HSZ.out.2 ?_; intro v8 w8 ho8 hb8; have HO8 := Pl.hid ho8; have HB8 := Pl.hid hb8; clear ho8 hb8; have hx8 := HST6.out w7 w8 hx7 HB8.out)
                            | (refine Mm.wp_storeF _ rfl 29 _ _ (by rfl) Mm.Tryd.info_rl x 3 31 #[.int .i64 6, .string ⟨#[]⟩, .int .i64 0, lv] v8 hx8 (by rfl) (by rfl) (Nat.lt_succ_self 3) HO8.out.one.2 HO8.out.one.1 ?_; intro w9 hw9 hs9 hg9; have HW9 := Pl.hid hw9; have HG9 := Pl.hid hg9; clear hw9 hs9 hg9))
                          have hlo := HLO.out
                          have T8 := T7.out.lowB HB8.out (by omega)
                          refine ⟨⟨j + 1, ts ++ [tt], v8, v6, lr, by go_num, hlt, HW9.out, ?_, ?_, T8.other HG9.out (by omega), HDN3.out, ?_, ?_⟩, by simp [intOf]; omega⟩
                          · exact HO8.out.keepLo fun g hg hgl => HG9.out.block g hgl (by intro e; cases e; omega)
                          · show _ = _
                            rw [List.length_append, HTL'.out]
                            rfl
                          · show _ ≤ _
                            rw [HLR.out]
                            exact Nat.le_trans (RT.dec_len HCB.out.symm) HLC.out
                          · show _ ≤ _
                            have h1 := HG9.out.size
                            have h2 := HB8.out.size
                            have h3 := HB7.out.size
                            have h4 := HSZ.out.2
                            omega
                        · have hdn := HDN2.out
                          rw [if_neg hc0] at hdn
                          have hq' := HQQ.out
                          rw [← hdn, RT.arrR_bad hc0] at hq'
                          obtain rfl := hq'
                          have hccb : ((cc : Int) != 0) = true := bne_iff_ne.2 hc0
                          have HC0 := Pl.hid hc0
                          clear hdn hc0
                          go_wp2_with (first
                            | (refine Mm.wp_store4 _ rfl _ _ rfl y _ _ _ _ _ _ (by rw [← hy]; exact heap_alloc_new w6 _) rfl rfl rfl HOW.out.one ?_; intro w7 hw7 hs7 hg7; clear hs7; have S7 := Pl.hid (S6.out.below (Mm.newcell4 (by rw [hy]; exact hg7))); have Z7 := Pl.hid (Z6.out.below (Mm.newcell4 (by rw [hy]; exact hg7))); clear hw7 hg7)
                            | (refine Mm.wp_store4 _ rfl _ _ rfl r _ _ _ _ _ _ S7.out.2.1 rfl rfl rfl Mm.leaf_one ?_; intro wf hwf hsf hgf; clear hsf; have HWF := Pl.hid hwf; have HGF := Pl.hid hgf; clear hwf hgf))
                          (try simp only [Exit.inBlock, Exit.then])
                          refine bodyPost_ret (Mm.res_cell_tmp rfl _ wf r _ _ _ _ _ _ rfl HWF.out) rfl ?_
                          exact ⟨_, _, _, _, rfl, Mm.zero_own _ _, Mm.DecP.bad (Z7.out.fin HGF.out) HC0.out, S7.out.fin HGF.out⟩
                      · obtain rfl : j = k := by omega
                        have hdn := HDN.out
                        rw [Nat.sub_self] at hdn
                        simp only [RT.decN] at hdn
                        have hq' := HQQ.out
                        rw [← hdn, RT.arrR_ok] at hq'
                        obtain rfl := hq'
                        have e0 := Mm.cell_of HXr.out (i := 0) rfl
                        have e1 := Mm.cell_of HXr.out (i := 1) rfl
                        have e2 := Mm.cell_of HXr.out (i := 2) rfl
                        clear hdn
                        go_wp2_with (refine Mm.wp_store4 _ rfl _ _ rfl r _ _ _ _ _ _ HS.out.1.2.1 rfl rfl rfl (by intro u hu; simp only [List.mem_cons, List.mem_nil_iff, or_false] at hu; rcases hu with rfl | rfl | rfl | rfl <;> first | rfl | exact HO.out.one.1) ?_; intro wf hwf hsf hgf; clear hsf; have HWF := Pl.hid hwf; have HGF := Pl.hid hgf; clear hwf hgf)
                        (try simp only [Exit.inBlock, Exit.then])
                        refine bodyPost_ret (Mm.res_cell_tmp rfl _ wf r _ _ _ _ _ _ rfl HWF.out) rfl ?_
                        have hlo := HLO.out
                        have hpr := HPR.out
                        exact ⟨_, _, _, _, rfl, ((HO.out.rep 6 ⟨#[]⟩ 0).keepLo (fun g hg hgl => HGF.out.block g hgl (by intro e; cases e; omega))).lo (by omega), Mm.DecP.ok (HS.out.fin HGF.out), HS.out.1.fin HGF.out⟩
      · have hbad : RT.hdR (f :: l') = .bad cd := by
          rw [HCD.out]
          exact RT.hd1 HKN.out (by rw [← HCD.out]; exact hc0)
        obtain rfl := HQ.out.trans (RT.decR_bad hbad d)
        clear hbad
        have hcb : ((cd : Int) != 0) = true := bne_iff_ne.2 hc0
        have HC0 := Pl.hid hc0
        clear hc0
        go_wp2_with (refine Mm.wp_store4 _ rfl _ _ rfl r _ _ _ _ _ _ S3.out.2.1 rfl rfl rfl Mm.leaf_one ?_; intro wf hwf hsf hgf; clear hsf; have HWF := Pl.hid hwf; have HGF := Pl.hid hgf; clear hwf hgf)
        refine bodyPost_ret (Mm.res_cell_tmp rfl _ wf r _ _ _ _ _ _ rfl HWF.out) rfl ?_
        exact ⟨_, _, _, _, rfl, Mm.zero_own _ _, Mm.DecP.bad (Z3.out.fin HGF.out) HC0.out, S3.out.fin HGF.out⟩
end Go.Proofs.YtakldjdohgmeiaaDoor

namespace Go.Proofs.YtakldjdohgmeiaaDoor
open Go.RowKit
set_option maxRecDepth 20000

namespace RT
/-- what Decode tells of bytes -/
def dcode (l : List UInt8) : Int := if (decR 8 l).1 ≠ 0 then (decR 8 l).1 else if 16777216 < l.length - (decR 8 l).2.2.length then 2 else 0
def dtree (l : List UInt8) : RT := if dcode l = 0 then (decR 8 l).2.1 else nul
def dsize (l : List UInt8) : Nat := if dcode l = 0 then l.length - (decR 8 l).2.2.length else 0
theorem dec_bad {l : List UInt8} {c : Int} (hc : c = (decR 8 l).1) (h : c ≠ 0) : dcode l = c ∧ dtree l = nul ∧ dsize l = 0 := by
  have e : dcode l = c := by unfold dcode; rw [if_pos (by rw [← hc]; exact h), hc]
  exact ⟨e, by unfold dtree; rw [e, if_neg h], by unfold dsize; rw [e, if_neg h]⟩
theorem dec_long {l : List UInt8} (hc : (decR 8 l).1 = 0) (h : 16777216 < l.length - (decR 8 l).2.2.length) : dcode l = 2 ∧ dtree l = nul ∧ dsize l = 0 := by
  have e : dcode l = 2 := by unfold dcode; rw [if_neg (by simp [hc]), if_pos h]
  exact ⟨e, by unfold dtree; rw [e, if_neg (by decide)], by unfold dsize; rw [e, if_neg (by decide)]⟩
theorem dec_good {l : List UInt8} (hc : (decR 8 l).1 = 0) (h : ¬ 16777216 < l.length - (decR 8 l).2.2.length) : dcode l = 0 ∧ dtree l = (decR 8 l).2.1 ∧ dsize l = l.length - (decR 8 l).2.2.length := by
  have e : dcode l = 0 := by unfold dcode; rw [if_neg (by simp [hc]), if_neg h]
  exact ⟨e, by unfold dtree; rw [e, if_pos rfl], by unfold dsize; rw [e, if_pos rfl]⟩
end RT
namespace Mm
/-- the results of a function whose first result is a reply in memory, and two more -/
theorem res_cell_tmp2 {fn : Func} {p u t : Tmp} (h : fn.results = #[.cell p 31, .tmp u, .tmp t]) (tmps : Array Value) (w : World) (g : Nat) (T : TypeId) (c0 c1 c2 c3 : Value) (fr : Nat × Nat)
    (hp : tmps.getD p undef = .pointer (some ⟨g, 0, none⟩)) (hg : w.heap[g]? = some (.cells #[c0, c1, c2, c3] T fr)) :
    (results fn tmps).run Tryd.prog w = .ok (.tuple #[.agg #[c0, c1, c2, c3], tmps.getD u undef, tmps.getD t undef]) w := by
  obtain ⟨i0, hi, hz0, hz1, hz2⟩ := info_parts Tryd.info_rep
  have key : (results fn tmps).run Tryd.prog w = ((asAddr (tmps.getD p undef)).run Tryd.prog w).andThen fun a w₁ => ((loadVar 31 a).run Tryd.prog w₁).andThen fun v w₂ => .ok (.tuple #[v, tmps.getD u undef, tmps.getD t undef]) w₂ := by
    simp only [results, h]
    simp [Sem.run_bind, Result.andThen]
  rw [key, hp]
  simp only [asAddr]
  simp [run_loadVar_row w g T 31 _ fr _ hg Tryd.underlying31 rfl (by rw [hi]; simp [hz1])]
end Mm

theorem rread_walk (W : World) (p : Nat) (hp : W.heap.size ≤ p) (hU : Mm.U8 W) (hX : Mm.MaxI W) (hE : Mm.Errs W) : ∀ d, d ≤ 8 → Mm.ReadC W p d
  | 0, h => rreply_step W p 0 h hp hU hX hE fun _ e => (by cases e)
  | d + 1, h => rreply_step W p (d + 1) h hp hU hX hE fun d' e => by
    injection e with e
    subst e
    exact rread_walk W p hp hU hX hE d (by omega)

set_option maxHeartbeats 8000000 in
theorem decode_walk (W : World) (hU : Mm.U8 W) (hX : Mm.MaxI W) (hE : Mm.Errs W) (v : Value) (l : List UInt8) (hv : Mm.Bs W v l) (hl : l.length ≤ 100000000) :
    Calls Tryd.prog 16 #[v] W fun e w' => ∃ c0 c1 c2 c3, e = .returned (.tuple #[.agg #[c0, c1, c2, c3], .int .i64 (RT.dsize l), .int .i64 (RT.dcode l)]) ∧
      Mm.OwnT w' W.heap.size (RT.dtree l) [c0, c1, c2, c3] ∧ Below W.heap.size W w' := by
  obtain ⟨a, c, rfl⟩ : ∃ a c, v = .slice a l.length c := by obtain ⟨a, c, h, _⟩ := hv; exact ⟨a, c, h⟩
  obtain ⟨sz, hsz⟩ : ∃ sz : Int, sz = RT.dsize l := ⟨_, rfl⟩
  obtain ⟨cd, hcd⟩ : ∃ cd, cd = RT.dcode l := ⟨_, rfl⟩
  obtain ⟨tr, htr⟩ : ∃ tr, tr = RT.dtree l := ⟨_, rfl⟩
  rw [← hsz, ← hcd, ← htr]
  have HSZ := Pl.hid hsz
  have HCD := Pl.hid hcd
  have HTR := Pl.hid htr
  clear hsz hcd htr
  obtain ⟨N, hN⟩ : ∃ N, N = l.length := ⟨_, rfl⟩
  rw [← hN] at hv hl ⊢
  have HN := Pl.hid hN
  obtain ⟨w1, hw1⟩ : ∃ w1, W.alloc (.cells #[.int .i64 0, .string ⟨#[]⟩, .int .i64 0, .slice none 0 0] 31) = w1 := ⟨_, rfl⟩
  obtain ⟨w2, hw2⟩ : ∃ w2, w1.alloc (.cells #[.slice a N c] 79) = w2 := ⟨_, rfl⟩
  obtain ⟨r, hr⟩ : ∃ r, W.heap.size = r := ⟨_, rfl⟩
  obtain ⟨p, hp⟩ : ∃ p, w1.heap.size = p := ⟨_, rfl⟩
  have HB1 : Hid (Below W.heap.size W w1) := by rw [← hw1]; exact (Below.refl _ _).alloc (Nat.le_refl _) _
  have HB12 : Hid (Below w1.heap.size w1 w2) := by rw [← hw2]; exact (Below.refl _ _).alloc (Nat.le_refl _) _
  have HB2 : Hid (Below W.heap.size W w2) := HB1.out.trans (HB12.out.mono HB1.out.size)
  have HR1 : Hid (w1.heap[r]? = some (.cells #[.int .i64 0, .string ⟨#[]⟩, .int .i64 0, .slice none 0 0] 31 (0, 0))) := by show _ = _; rw [← hw1, ← hr]; exact heap_alloc_new W _
  have HRP : Hid (r < p ∧ p < w2.heap.size ∧ W.heap.size = r) := ⟨by rw [← hp]; exact (Array.getElem?_eq_some_iff.1 HR1.out).1, by rw [← hp, ← hw2]; simp, hr⟩
  have HR2 : Hid (w2.heap[r]? = some (.cells #[.int .i64 0, .string ⟨#[]⟩, .int .i64 0, .slice none 0 0] 31 (0, 0))) := (HB12.out.block r (by have := HRP.out; omega)).trans HR1.out
  have HP2 : Hid (w2.heap[p]? = some (.cells #[.slice a N c] 79 (0, 0))) := by show _ = _; rw [← hw2, ← hp]; exact heap_alloc_new w1 _
  have HRC := rread_walk W p (by have := HRP.out; omega) hU hX hE 8 (Nat.le_refl _) l _ (by rw [← hN] at *; exact hv) (by rw [← hN]; exact hl) w2 HB2.out HP2.out
  rw [show (8 : Int) - ((8 : Nat) : Int) = 0 by decide] at HRC
  have HRC' := Pl.hid HRC
  clear HRC hU hX hE hv hN HR1 HP2
  go_enter Tryd.func16, Tryd.ntmps16
  go_wp2_with fail
  refine HRC'.out.mono ?_
  rintro e w3 ⟨c0, c1, c2, c3, rfl, hown, hdp, hg3⟩
  have HOW := Pl.hid hown
  have HDP := Pl.hid hdp
  have HG3 := Pl.hid hg3
  clear hown hdp hg3 HRC'
  obtain ⟨y, hy⟩ : ∃ y, w3.heap.size = y := ⟨_, rfl⟩
  obtain ⟨cc, hcc⟩ : ∃ cc, cc = (RT.decR 8 l).1 := ⟨_, rfl⟩
  rw [← hcc]
  have HCC := Pl.hid hcc
  clear hcc
  have HZ : Hid (w2.heap.size ≤ w3.heap.size ∧ w3.heap.size = y ∧ r < y ∧ p < y ∧ p ≠ r) := by have := HRP.out; have := HG3.out.size; exact ⟨this, hy, by omega, by omega, by omega⟩
  have HR3 : Hid (w3.heap[r]? = some (.cells #[.int .i64 0, .string ⟨#[]⟩, .int .i64 0, .slice none 0 0] 31 (0, 0))) :=
    (HG3.out.block r (by have := HRP.out; omega) (fun e => by injection e with e; have := HRP.out; omega)).trans HR2.out
  have HB3 : Hid (Below W.heap.size W w3) := HB2.out.grown HG3.out HB2.out.size (fun k hk => by injection hk with hk; have := HRP.out; omega)
  have key : ∃ (vz : Value) (lz : List UInt8), w3.heap[p]? = some (.cells #[vz] 79 (0, 0)) ∧ (∃ az nz cz, vz = .slice az nz cz ∧ nz = lz.length) ∧ (cc = 0 → lz = (RT.decR 8 l).2.2) := by
    by_cases h0 : cc = 0
    · obtain ⟨vz, h1, az, cz, h2, _⟩ := HDP.out.2 (by rw [← HCC.out]; exact h0)
      exact ⟨vz, _, h1, ⟨az, _, cz, h2, rfl⟩, fun _ => rfl⟩
    · obtain ⟨lz, vz, h1, az, cz, h2, _⟩ := HDP.out.1
      exact ⟨vz, lz, h1, ⟨az, _, cz, h2, rfl⟩, fun h => absurd h h0⟩
  obtain ⟨_, lz, hp3, ⟨az, nz, cz, rfl, hnz⟩, hlz⟩ := key
  have HP3 := Pl.hid hp3
  have HNZ := Pl.hid hnz
  have HLZ := Pl.hid hlz
  clear hp3 hnz hlz
  have HST : Hid (∀ w4 : World, w4.heap[y]? = some (.cells #[c0, c1, c2, c3] 31 (0, 0)) → Below w3.heap.size w3 w4 → w4.cell? ⟨p, 0, none⟩ = some (.slice az nz cz) ∧ w4.cell? ⟨y, 0, none⟩ = some c0 ∧ w4.cell? ⟨y, 1, none⟩ = some c1 ∧ w4.cell? ⟨y, 2, none⟩ = some c2 ∧
      w4.cell? ⟨y, 3, none⟩ = some c3 ∧ Hid (w4.heap[r]? = some (.cells #[.int .i64 0, .string ⟨#[]⟩, .int .i64 0, .slice none 0 0] 31 (0, 0))) ∧ Hid (Below W.heap.size W w4) ∧ Hid (Mm.OwnT w4 w2.heap.size (RT.decR 8 l).2.1 [c0, c1, c2, c3])) := fun w4 h4 hb4 => by
    have hz := HZ.out
    exact ⟨Mm.cell_of ((hb4.block p (by omega)).trans HP3.out) (i := 0) rfl, Mm.cell_of h4 (i := 0) rfl, Mm.cell_of h4 (i := 1) rfl, Mm.cell_of h4 (i := 2) rfl, Mm.cell_of h4 (i := 3) rfl,
      (hb4.block r (by omega)).trans HR3.out, HB3.out.trans (hb4.mono HB3.out.size), HOW.out.below hb4⟩
  have fin : ∀ (w4 wf : World), w4.heap[r]? = some (.cells #[.int .i64 0, .string ⟨#[]⟩, .int .i64 0, .slice none 0 0] 31 (0, 0)) → Below W.heap.size W w4 → w4.grownBy wf (some r) → Below W.heap.size W wf := fun w4 wf _ hb hg =>
    hb.grown hg hb.size (fun k hk => by injection hk with hk; have := HRP.out; omega)
  have FIN := Pl.hid fin
  clear fin
  by_cases hc0 : cc = 0
  · subst hc0
    have hlz := HLZ.out rfl
    have hle := RT.dec_len HCC.out.symm
    rw [← hlz, ← HNZ.out, ← HN.out] at hle
    have HLE := Pl.hid hlz
    clear hlz
    by_cases hbig : 16777216 < N - nz
    · obtain ⟨g1, g2, g3⟩ := RT.dec_long HCC.out.symm (by rw [← HLE.out, ← HNZ.out, ← HN.out]; exact hbig)
      obtain rfl := HCD.out.trans g1
      obtain rfl := HTR.out.trans g2
      obtain rfl : sz = 0 := by have := HSZ.out; rw [g3] at this; exact this
      have hb' : (16777216 : Int) < (N : Int) - (nz : Int) := by omega
      clear g1 g2 g3
      go_wp2_with (first
        | (refine Mm.wp_store4 _ rfl _ _ rfl y _ _ _ _ _ _ (by rw [← hy]; exact heap_alloc_new w3 _) rfl rfl rfl HOW.out.one ?_; intro w4 hw4 hs4 hg4; clear hs4; obtain ⟨p4, q0, q1, q2, q3, HR4, HB4, HO4⟩ := HST.out w4 hw4 (Mm.newcell4 (by rw [hy]; exact hg4)); clear hw4 hg4)
        | (refine Mm.wp_store4 _ rfl _ _ rfl r _ _ _ _ _ _ HR4.out rfl rfl rfl Mm.leaf_one ?_; intro wf hwf hsf hgf; clear hsf; have HWF := Pl.hid hwf; have HGF := Pl.hid hgf; clear hwf hgf))
      refine bodyPost_ret (Mm.res_cell_tmp2 rfl _ wf r _ _ _ _ _ _ rfl HWF.out) rfl ?_
      exact ⟨_, _, _, _, rfl, Mm.zero_own _ _, FIN.out _ _ HR4.out HB4.out HGF.out⟩
    · obtain ⟨g1, g2, g3⟩ := RT.dec_good HCC.out.symm (by rw [← HLE.out, ← HNZ.out, ← HN.out]; exact hbig)
      obtain rfl := HCD.out.trans g1
      obtain rfl := HTR.out.trans g2
      obtain rfl : sz = (N : Int) - (nz : Int) := by
        have := HSZ.out
        rw [g3, ← HLE.out, ← HNZ.out, ← HN.out] at this
        omega
      have hb' : ¬ (16777216 : Int) < (N : Int) - (nz : Int) := by omega
      clear g1 g2 g3
      go_wp2_with (first
        | (refine Mm.wp_store4 _ rfl _ _ rfl y _ _ _ _ _ _ (by rw [← hy]; exact heap_alloc_new w3 _) rfl rfl rfl HOW.out.one ?_; intro w4 hw4 hs4 hg4; clear hs4; obtain ⟨p4, q0, q1, q2, q3, HR4, HB4, HO4⟩ := HST.out w4 hw4 (Mm.newcell4 (by rw [hy]; exact hg4)); clear hw4 hg4)
        | (refine Mm.wp_store4 _ rfl _ _ rfl r _ _ _ _ _ _ HR4.out rfl rfl rfl HO4.out.one ?_; intro wf hwf hsf hgf; clear hsf; have HWF := Pl.hid hwf; have HGF := Pl.hid hgf; clear hwf hgf))
      refine bodyPost_ret (Mm.res_cell_tmp2 rfl _ wf r _ _ _ _ _ _ rfl HWF.out) rfl ?_
      exact ⟨_, _, _, _, rfl, (HO4.out.keepLo fun g hg hgl => HGF.out.block g hgl (by intro e; cases e; have := HRP.out; omega)).lo HB2.out.size, FIN.out _ _ HR4.out HB4.out HGF.out⟩
  · obtain ⟨g1, g2, g3⟩ := RT.dec_bad HCC.out hc0
    obtain rfl := HCD.out.trans g1
    obtain rfl := HTR.out.trans g2
    obtain rfl : sz = 0 := by have := HSZ.out; rw [g3] at this; exact this
    have hcb : ((cd : Int) == 0) = false := beq_eq_false_iff_ne.2 hc0
    have hcb2 : ((cd : Int) != 0) = true := bne_iff_ne.2 hc0
    clear g1 g2 g3
    go_wp2_with (first
      | (refine Mm.wp_store4 _ rfl _ _ rfl y _ _ _ _ _ _ (by rw [← hy]; exact heap_alloc_new w3 _) rfl rfl rfl HOW.out.one ?_; intro w4 hw4 hs4 hg4; clear hs4; obtain ⟨p4, q0, q1, q2, q3, HR4, HB4, HO4⟩ := HST.out w4 hw4 (Mm.newcell4 (by rw [hy]; exact hg4)); clear hw4 hg4)
      | (refine Mm.wp_store4 _ rfl _ _ rfl r _ _ _ _ _ _ HR4.out rfl rfl rfl Mm.leaf_one ?_; intro wf hwf hsf hgf; clear hsf; have HWF := Pl.hid hwf; have HGF := Pl.hid hgf; clear hwf hgf))
    refine bodyPost_ret (Mm.res_cell_tmp2 rfl _ wf r _ _ _ _ _ _ rfl HWF.out) rfl ?_
    exact ⟨_, _, _, _, rfl, Mm.zero_own _ _, FIN.out _ _ HR4.out HB4.out HGF.out⟩
end Go.Proofs.YtakldjdohgmeiaaDoor

namespace Go.Proofs.YtakldjdohgmeiaaDoor
open Go.RowKit
set_option maxRecDepth 20000

set_option maxHeartbeats 4000000 in
theorem alike_tree (W : World) : ∀ (t : RT), t.sz ≤ 1073741824 → ∀ (c0 c1 c2 c3 d0 d1 d2 d3 : Value), Mm.RepX W t [c0, c1, c2, c3] → Mm.RepX W t [d0, d1, d2, d3] → ∀ w : World, Below W.heap.size W w →
    Calls Tryd.prog 17 #[.agg #[c0, c1, c2, c3], .agg #[d0, d1, d2, d3]] w fun e w' => e = .returned (.bool true) ∧ Below w.heap.size w w' := by
  intro t
  induction t using RT.ind with
  | h k s n l ih =>
    intro hsz c0 c1 c2 c3 d0 d1 d2 d3 hx hy w hb
    obtain ⟨a, cap, hcs, hel⟩ := hx.open
    simp only [List.cons.injEq, and_true] at hcs
    obtain ⟨rfl, rfl, rfl, rfl⟩ := hcs
    obtain ⟨a', cap', hcs, hel'⟩ := hy.open
    simp only [List.cons.injEq, and_true] at hcs
    obtain ⟨rfl, rfl, rfl, rfl⟩ := hcs
    rw [RT.sz_mk] at hsz
    have hlen : l.length < 1073741824 := by have := RT.szL_len l; omega
    have HSZ := Pl.hid hsz
    have IH := Pl.hid ih
    have HB := Pl.hid hb
    have HEL := Pl.hid hel
    have HEL' := Pl.hid hel'
    clear hb ih hel hel' hx hy hsz
    go_enter Tryd.func17, Tryd.ntmps17
    go_wp2_with fail
    generalize hw2 : World.alloc _ _ = w2
    have HP2 : Hid (w2.heap[w.heap.size]? = some (.cells #[.int .i64 k, .string s, .int .i64 n, .slice a l.length cap] 31 (0, 0))) := by
      show _ = _
      rw [← hw2, Below.heap_alloc _ _ _ (by simp)]
      exact heap_alloc_new w _
    have HR2 : Hid (w2.heap[w.heap.size + 1]? = some (.cells #[.int .i64 k, .string s, .int .i64 n, .slice a' l.length cap'] 31 (0, 0))) := by
      show _ = _
      rw [← hw2]
      have := heap_alloc_new (w.alloc (.cells #[.int .i64 k, .string s, .int .i64 n, .slice a l.length cap] 31)) (.cells #[.int .i64 k, .string s, .int .i64 n, .slice a' l.length cap'] 31)
      simpa using this
    have HB2 : Hid (Below w.heap.size w w2) := by rw [← hw2]; exact ((Below.refl _ _).alloc (Nat.le_refl _) _).alloc (by simp) _
    have HS2 : Hid (w2.heap.size = w.heap.size + 2) := by show _ = _; rw [← hw2]; simp
    clear hw2
    have HNX : Hid (w2.cell? ⟨w.heap.size, 0, none⟩ = some (.int .i64 k)) := Mm.cell_of HP2.out rfl
    go_loopw [37] (fun iv wr => ∃ (i : Nat), iv = .int .i64 i ∧ i ≤ l.length ∧ Hid (Below w2.heap.size w2 wr)) (fun iv _ => l.length - (intOf iv).toNat)
    case atStart => exact ⟨0, rfl, Nat.zero_le _, Below.refl _ _⟩
    case round =>
      obtain ⟨i, rfl, hi, HBr⟩ := hrel
      rcases Nat.lt_or_ge i l.length with hlt | hge
      · rcases HEL.out with h0 | ⟨b, rfl, hbl, hel⟩
        · omega
        rcases HEL'.out with h0 | ⟨b', rfl, hbl', hel'⟩
        · omega
        obtain ⟨f0, f1, f2, f3, h0, h1, h2, h3, hrep⟩ := hel i hlt
        obtain ⟨g0, g1, g2, g3, h0', h1', h2', h3', hrep'⟩ := hel' i hlt
        have HBW : Hid (Below W.heap.size W wr) := HB.out.trans ((HB2.out.trans (HBr.out.mono HB2.out.size)).mono HB.out.size)
        have r0 : wr.cell? ⟨b, i * 4, none⟩ = some f0 := (HBW.out.cell (p := ⟨b, i * 4, none⟩) hbl).trans h0
        have r1 : wr.cell? ⟨b, i * 4 + 1, none⟩ = some f1 := (HBW.out.cell (p := ⟨b, i * 4 + 1, none⟩) hbl).trans h1
        have r2 : wr.cell? ⟨b, i * 4 + 2, none⟩ = some f2 := (HBW.out.cell (p := ⟨b, i * 4 + 2, none⟩) hbl).trans h2
        have r3 : wr.cell? ⟨b, i * 4 + 3, none⟩ = some f3 := (HBW.out.cell (p := ⟨b, i * 4 + 3, none⟩) hbl).trans h3
        have s0 : wr.cell? ⟨b', i * 4, none⟩ = some g0 := (HBW.out.cell (p := ⟨b', i * 4, none⟩) hbl').trans h0'
        have s1 : wr.cell? ⟨b', i * 4 + 1, none⟩ = some g1 := (HBW.out.cell (p := ⟨b', i * 4 + 1, none⟩) hbl').trans h1'
        have s2 : wr.cell? ⟨b', i * 4 + 2, none⟩ = some g2 := (HBW.out.cell (p := ⟨b', i * 4 + 2, none⟩) hbl').trans h2'
        have s3 : wr.cell? ⟨b', i * 4 + 3, none⟩ = some g3 := (HBW.out.cell (p := ⟨b', i * 4 + 3, none⟩) hbl').trans h3'
        have p3 : wr.cell? ⟨w.heap.size, 3, none⟩ = some (.slice (some ⟨b, 0, none⟩) l.length cap) := (HBr.out.cell (p := ⟨w.heap.size, 3, none⟩) (by have := HS2.out; show w.heap.size < w2.heap.size; omega)).trans (Mm.cell_of HP2.out rfl)
        have q3 : wr.cell? ⟨w.heap.size + 1, 3, none⟩ = some (.slice (some ⟨b', 0, none⟩) l.length cap') := (HBr.out.cell (p := ⟨w.heap.size + 1, 3, none⟩) (by have := HS2.out; show w.heap.size + 1 < w2.heap.size; omega)).trans (Mm.cell_of HR2.out rfl)
        have HREP := Pl.hid hrep
        have HREP' := Pl.hid hrep'
        have HLN : Hid ((l[i]'hlt).sz ≤ 1073741824) := by have := RT.szL_mem (List.getElem_mem hlt); have := HSZ.out; show _ ≤ _; omega
        clear h0 h1 h2 h3 h0' h1' h2' h3' hrep hrep' hel hel'
        go_wp2_with fail
        go_region_law (go_simp; go_at_call 17; (refine (IH.out _ (List.getElem_mem hlt) HLN.out f0 f1 f2 f3 g0 g1 g2 g3 HREP.out HREP'.out _ (by first | exact HBW.out | exact HBW.out.drew)).mono ?_; rintro e w5 ⟨rfl, hb5⟩; have HB5 := Pl.hid hb5; clear hb5))
        all_goals
          clear r0 r1 r2 r3 s0 s1 s2 s3 p3 q3
          go_wp2_with fail
          have HB6 : Below wr.heap.size wr w5 := by first | exact HB5.out | exact Mm.undrew HB5.out
          exact ⟨⟨i + 1, by go_num, hlt, HBr.out.trans (HB6.mono HBr.out.size)⟩, by simp [intOf]; omega⟩
      · obtain rfl : i = l.length := by omega
        go_wp2_with fail
        go_ret
        exact ⟨rfl, HB2.out.trans (HBr.out.mono HB2.out.size)⟩
end Go.Proofs.YtakldjdohgmeiaaDoor

namespace Go.Proofs.YtakldjdohgmeiaaDoor
open Go.RowKit
set_option maxRecDepth 20000

namespace RT
open Pl
/-- how Encode goes -/
def code (t : RT) : Int := if t.ok = false then 160 else if 8 < t.depth then 161 else if 16777216 < t.enc.length then 2 else 0
/-- and what it writes -/
def out (t : RT) : List UInt8 := if t.ok = false then [] else if 8 < t.depth then [] else if 16777216 < t.enc.length then [] else t.enc
theorem co_bad {t : RT} (h : t.ok = false) : code t = 160 ∧ out t = [] := by simp [code, out, h]
theorem co_deep {t : RT} (h : t.ok = true) (h2 : 8 < t.depth) : code t = 161 ∧ out t = [] := by simp [code, out, h, h2]
theorem co_long {t : RT} (h : t.ok = true) (h2 : ¬ 8 < t.depth) (h3 : 16777216 < t.enc.length) : code t = 2 ∧ out t = [] := by simp only [code, out, h, h2, h3, if_true, if_false]; simp
theorem co_good {t : RT} (h : t.ok = true) (h2 : ¬ 8 < t.depth) (h3 : ¬ 16777216 < t.enc.length) : code t = 0 ∧ out t = t.enc := by simp only [code, out, h, h2, h3, if_true, if_false]; simp
end RT

set_option maxHeartbeats 4000000 in
theorem encode_walk (W : World) (hT : Mm.Tab W) (t : RT) (hin : t.In) (hsz : t.sz ≤ 1073741824) (c0 c1 c2 c3 : Value) (hX : Mm.RepX W t [c0, c1, c2, c3]) (w : World) (hW : Below W.heap.size W w) :
    Calls Tryd.prog 12 #[.agg #[c0, c1, c2, c3]] w fun e w' => ∃ v', e = .returned (.tuple #[v', .int .i64 t.code]) ∧ Mm.OwnB w' w.heap.size v' t.out ∧ Below w.heap.size w w' := by
  obtain ⟨p, hp⟩ : ∃ p, p = w.heap.size := ⟨_, rfl⟩
  obtain ⟨w0, hw0⟩ : ∃ w0, w0 = w.alloc (.cells #[c0, c1, c2, c3] 31) := ⟨_, rfl⟩
  have HB0 : Hid (Below w.heap.size w w0) := by rw [hw0]; exact (Below.refl _ _).alloc (Nat.le_refl _) _
  have HK : Hid (∀ V, Below w0.heap.size w0 V → ∀ i u, (#[c0, c1, c2, c3] : Array Value)[i]? = some u → V.cell? ⟨p, i, none⟩ = some u) := fun V hV i u hu => by
    have h0 : w0.cell? ⟨p, i, none⟩ = some u := by rw [hw0, hp, World.cell?_alloc_mark]; exact hu
    exact (hV.cell (p := ⟨p, i, none⟩) (World.block_lt_of_cell? _ _ h0)).trans h0
  have HW0eq := Pl.hid hw0
  have HPeq := Pl.hid hp
  have HWW : Hid (∀ V, Below w0.heap.size w0 V → Below W.heap.size W V) := fun V hV => hW.trans ((HB0.out.trans (hV.mono HB0.out.size)).mono hW.size)
  have HX := Pl.hid hX
  have HT := Pl.hid hT
  have HIN := Pl.hid hin
  have HSZ := Pl.hid hsz
  have HEL := Pl.hid (RT.enc_le t hin hsz)
  have hk := HK.out w0 (Below.refl _ _)
  have k0 := hk 0 _ rfl
  have k1 := hk 1 _ rfl
  have k2 := hk 2 _ rfl
  have k3 := hk 3 _ rfl
  have hone := HX.out.one
  have o0 := hone c0 (by simp)
  have o1 := hone c1 (by simp)
  have o2 := hone c2 (by simp)
  have o3 := hone c3 (by simp)
  clear hw0 hp hk hT hX hin hsz hW
  go_enter Tryd.func12, Tryd.ntmps12
  go_wp2_with fail
  rw [← HW0eq.out]
  refine (looked_walk W t HSZ.out c0 c1 c2 c3 HX.out w0 (HWW.out _ (Below.refl _ _))).mono ?_
  rintro e w1 ⟨rfl, hb1⟩
  have HB1 := Pl.hid hb1
  rw [← HPeq.out]
  clear hb1 k0 k1 k2 k3
  have hk := HK.out w1 HB1.out
  have k0 := hk 0 _ rfl
  have k1 := hk 1 _ rfl
  have k2 := hk 2 _ rfl
  have k3 := hk 3 _ rfl
  clear hk
  cases hok : t.ok
  · have HC := Pl.hid (RT.co_bad hok)
    clear hok
    go_wp2_with fail
    go_ret2
    rw [HC.out.1, HC.out.2]
    exact ⟨_, rfl, Mm.ownB_nil _ _, HB0.out.trans (HB1.out.mono HB0.out.size)⟩
  · rw [RT.lookD_ok hok]
    obtain ⟨D, hD⟩ : ∃ D, D = t.depth := ⟨_, rfl⟩
    rw [← hD]
    by_cases hdd : 8 < D
    · have HC := Pl.hid (RT.co_deep hok (by rw [← hD]; exact hdd))
      clear hok hD
      go_wp2_with fail
      go_ret2
      rw [HC.out.1, HC.out.2]
      exact ⟨_, rfl, Mm.ownB_nil _ _, HB0.out.trans (HB1.out.mono HB0.out.size)⟩
    · have HOK := Pl.hid hok
      have HD := Pl.hid hD
      clear hok hD
      go_wp2_with fail
      refine (size_walk W HT.out t HOK.out HIN.out HSZ.out c0 c1 c2 c3 HX.out w1 (HWW.out _ HB1.out)).mono ?_
      rintro e w2 ⟨rfl, hb2⟩
      have HB2 := Pl.hid (HB1.out.trans (hb2.mono HB1.out.size))
      clear hb2 k0 k1 k2 k3
      have hk := HK.out w2 HB2.out
      have k0 := hk 0 _ rfl
      have k1 := hk 1 _ rfl
      have k2 := hk 2 _ rfl
      have k3 := hk 3 _ rfl
      clear hk
      obtain ⟨N, hN⟩ : ∃ N, N = t.enc.length := ⟨_, rfl⟩
      rw [← hN]
      by_cases hnn : 16777216 < N
      · have HC := Pl.hid (RT.co_long HOK.out (by rw [← HD.out]; exact hdd) (by rw [← hN]; exact hnn))
        clear hN
        go_wp2_with fail
        go_ret2
        rw [HC.out.1, HC.out.2]
        exact ⟨_, rfl, Mm.ownB_nil _ _, HB0.out.trans (HB2.out.mono HB0.out.size)⟩
      · have HC := Pl.hid (RT.co_good HOK.out (by rw [← HD.out]; exact hdd) (by rw [← hN]; exact hnn))
        have HN := Pl.hid hN
        clear hN
        go_wp2_with fail
        refine (lay_walk W HT.out t HOK.out HIN.out HSZ.out c0 c1 c2 c3 HX.out w2.heap.size (.slice none 0 0) [] w2 (HWW.out _ HB2.out) (Below.size (HWW.out _ HB2.out)) (Nat.le_refl _) (Mm.ownB_nil _ _) (by have := HN.out; simp only [List.length_nil]; omega)).mono ?_
        rintro e w3 ⟨v3, rfl, ho3, hb3, _⟩
        have HO3 := Pl.hid ho3
        have HB3 := Pl.hid hb3
        clear ho3 hb3 k0 k1 k2 k3
        go_wp2_with fail
        go_ret2
        have h2 : w.heap.size ≤ w2.heap.size := Nat.le_trans HB0.out.size HB2.out.size
        rw [HC.out.1, HC.out.2]
        have ho := HO3.out
        rw [List.nil_append] at ho
        exact ⟨v3, rfl, ho.base0 h2, (HB0.out.trans (HB2.out.mono HB0.out.size)).trans (HB3.out.mono h2)⟩
end Go.Proofs.YtakldjdohgmeiaaDoor

namespace Go.Proofs.YtakldjdohgmeiaaDoor
open Go.RowKit
set_option maxRecDepth 20000

namespace Mm
open Pl
theorem RowB.len {w : World} : ∀ {ts : List RT} {xs : List Value} {bs : List Nat}, RowB w ts xs bs → xs.length = ts.length * 4
  | _, _, _, .nil => rfl
  | _, _, _, .cons t ts cs xs bs bs' h hr => by
    obtain ⟨c0, c1, c2, c3, rfl, _⟩ := h.four
    have := hr.len
    simp only [List.length_append, List.length_cons, List.length_nil, this]
    omega
theorem RowB.one {w : World} : ∀ {ts : List RT} {xs : List Value} {bs : List Nat}, RowB w ts xs bs → ∀ u ∈ xs, u.oneCell' = true
  | _, _, _, .nil, u, hu => by cases hu
  | _, _, _, .cons t ts cs xs bs bs' h hr, u, hu => by
    rcases List.mem_append.1 hu with hu | hu
    · obtain ⟨_, _, _, _, _, h1⟩ := h.four
      exact h1 u hu
    · exact hr.one u hu
/-- 'append(x, y...)', x an empty row of one's own: a row like y -/
theorem wp_appN {ops : Array Oper} {rest : List Oper} {o : Oper} {a : Act} {Q : Exit → Act → World → Prop} (w : World) (hgd : o.guard = none) (x y : Operand)
    (ho : o.op = .call { callee := .builtin .append, args := #[x, y], argTypes := #[29, 29] })
    (lo : Nat) (v : Value) (ad : Addr) (m c : Nat) (xs : List Value) (hx : a.eval x = v) (hy : a.eval y = .slice (some ad) m c) (h : w.ownsRow lo 31 4 v 0 []) (hlo : lo ≤ w.heap.size)
    (hl : xs.length = m * 4) (hc : ∀ j u, xs[j]? = some u → w.cell? (ad.add j) = some u) (h1 : ∀ u ∈ xs, u.oneCell' = true) (hm : m ≤ 1073741824)
    (hK : ∀ v' w', w'.ownsRow lo 31 4 v' m xs → w.grownBy w' v.ownBlock → wpList Tryd.prog ops Q rest (a.put o.dst v') w') :
    wpList Tryd.prog ops Q (o :: rest) a w := by
  obtain ⟨i0, hi, hz0, hz1, hz2⟩ := info_parts Tryd.info_rep
  obtain ⟨v1, w1, hr1, o1, g1, _, _⟩ := run_append_own_at (P := Tryd.prog) w lo 29 o.type 31 i0 (.agg #[.int .i64 0, .string ⟨#[]⟩, .int .i64 0, .slice none 0 0]) 4 56 Tryd.underlying29 hi hz0 hz1 hz2 rfl (by decide) v 0 [] h ad m c xs hl hc h1 (by unfold maxLen; omega) (by omega) hlo
  refine wpList_plain hgd fun K hK' => ?_
  unfold Oper.wp execOp
  simp only [ho, resolve, invoke, builtin, Sem.run_bind, Sem.run_pure, Result.andThen_ok, List.map_toArray, List.map_cons, List.map_nil, hx, hy, hr1]
  refine hK' _ _ (hK _ _ ?_ g1)
  simpa using o1
theorem row_slice {w : World} {lo : Nat} {e : TypeId} {z n : Nat} {v : Value} {xs : List Value} (h : w.ownsRow lo e z v n xs) : ∃ a k c, v = .slice a k c := by
  rcases h.2 with ⟨h, _⟩ | ⟨_, _, _, h, _⟩ <;> exact ⟨_, _, _, h⟩
end Mm

set_option maxHeartbeats 4000000 in
/-- reply.Array: a reply whose list has the cells of the one handed in -/
theorem array_walk (w : World) (ad : Addr) (m c : Nat) (xs : List Value) (hl : xs.length = m * 4) (hc : ∀ j u, xs[j]? = some u → w.cell? (ad.add j) = some u) (h1 : ∀ u ∈ xs, u.oneCell' = true) (hm : m ≤ 1073741824) :
    Calls Tryd.prog 24 #[.slice (some ad) m c] w fun e w' => ∃ v', e = .returned (.agg #[.int .i64 6, .string ⟨#[]⟩, .int .i64 0, v']) ∧ w'.ownsRow w.heap.size 31 4 v' m xs ∧ Below w.heap.size w w' := by
  obtain ⟨w1, hw1⟩ : ∃ w1, w.alloc (.cells #[.int .i64 0, .string ⟨#[]⟩, .int .i64 0, .slice none 0 0] 31) = w1 := ⟨_, rfl⟩
  obtain ⟨r, hr⟩ : ∃ r, w.heap.size = r := ⟨_, rfl⟩
  have HR1 : Hid (w1.heap[r]? = some (.cells #[.int .i64 0, .string ⟨#[]⟩, .int .i64 0, .slice none 0 0] 31 (0, 0))) := by show _ = _; rw [← hw1, ← hr]; exact heap_alloc_new w _
  have HB1 : Hid (Below w.heap.size w w1) := by rw [← hw1]; exact (Below.refl _ _).alloc (Nat.le_refl _) _
  have HRL : Hid (r < w1.heap.size ∧ w.heap.size = r ∧ w.heap.size ≤ w1.heap.size) := ⟨(Array.getElem?_eq_some_iff.1 HR1.out).1, hr, HB1.out.size⟩
  have HC : Hid (∀ j u, xs[j]? = some u → w1.cell? (ad.add j) = some u) := fun j u hj => by
    have := hc j u hj
    exact (HB1.out.cell (World.block_lt_of_cell? _ _ this)).trans this
  have HL := Pl.hid hl
  have H1 := Pl.hid h1
  clear hc hl h1
  go_enter Tryd.func24, Tryd.ntmps24
  go_wp2_with (first
    | (at_builtin; refine Mm.wp_appN w1 rfl _ _ (by rfl) w1.heap.size (.slice none 0 0) ad m c xs (by rfl) (by rfl) ⟨rfl, .inl ⟨rfl, rfl⟩⟩ (Nat.le_refl _) HL.out HC.out H1.out hm ?_; intro v2 w2 ho2 hg2; have HO2 := Pl.hid ho2; have HB2 := Pl.hid ((Below.refl w1.heap.size w1).grown hg2 (Nat.le_refl _) (fun k hk => by cases hk)); clear ho2 hg2; obtain ⟨va, vn, vk, rfl⟩ := Mm.row_slice HO2.out)
    | (refine Mm.wp_store4 _ rfl _ _ rfl r _ _ _ _ _ _ ((HB2.out.block r HRL.out.1).trans HR1.out) rfl rfl rfl (by intro u hu; simp only [List.mem_cons, List.mem_nil_iff, or_false] at hu; rcases hu with rfl | rfl | rfl | rfl <;> rfl) ?_; intro wf hwf hsf hgf; clear hsf; have HWF := Pl.hid hwf; have HGF := Pl.hid hgf; clear hwf hgf))
  refine bodyPost_ret (Mm.res_cell rfl _ wf r _ _ _ _ _ _ rfl HWF.out) rfl ?_
  have hrl := HRL.out
  refine ⟨_, rfl, ?_, (HB1.out.trans (HB2.out.mono HB1.out.size)).grown HGF.out (Nat.le_trans HB1.out.size HB2.out.size) (fun k hk => by injection hk with hk; omega)⟩
  have h2 := Mm.ownsRowR_keep HO2.out (w' := wf) (fun g hg => HGF.out.block g (Mm.ownsRow_lt HO2.out hg) (fun e => by
    injection e with e
    rcases HO2.out.2 with ⟨e', _⟩ | ⟨g', cap, cur, e', hle, _⟩
    · rw [e'] at hg; cases hg
    · rw [e'] at hg
      injection hg with hg
      have hg : g' = g := hg
      omega))
  exact ⟨h2.1, by
    rcases h2.2 with h | ⟨g', cap, cur, e', hle, r⟩
    · exact .inl h
    · exact .inr ⟨g', cap, cur, e', by omega, r⟩⟩

set_option maxHeartbeats 4000000 in
/-- pantryref16.Array: a reply whose list has the cells of the one handed in -/
theorem rarray_walk (w : World) (ad : Addr) (m c : Nat) (xs : List Value) (hl : xs.length = m * 4) (hc : ∀ j u, xs[j]? = some u → w.cell? (ad.add j) = some u) (h1 : ∀ u ∈ xs, u.oneCell' = true) (hm : m ≤ 1073741824) :
    Calls Tryd.prog 25 #[.slice (some ad) m c] w fun e w' => ∃ v', e = .returned (.agg #[.int .i64 6, .string ⟨#[]⟩, .int .i64 0, v']) ∧ w'.ownsRow w.heap.size 31 4 v' m xs ∧ Below w.heap.size w w' := by
  obtain ⟨w1, hw1⟩ : ∃ w1, w.alloc (.cells #[.int .i64 0, .string ⟨#[]⟩, .int .i64 0, .slice none 0 0] 31) = w1 := ⟨_, rfl⟩
  obtain ⟨w2, hw2⟩ : ∃ w2, w1.alloc (.cells #[] 31) = w2 := ⟨_, rfl⟩
  obtain ⟨r, hr⟩ : ∃ r, w.heap.size = r := ⟨_, rfl⟩
  obtain ⟨p, hp⟩ : ∃ p, w1.heap.size = p := ⟨_, rfl⟩
  have HB1 : Hid (Below w.heap.size w w1) := by rw [← hw1]; exact (Below.refl _ _).alloc (Nat.le_refl _) _
  have HB12 : Hid (Below w1.heap.size w1 w2) := by rw [← hw2]; exact (Below.refl _ _).alloc (Nat.le_refl _) _
  have HR1 : Hid (w1.heap[r]? = some (.cells #[.int .i64 0, .string ⟨#[]⟩, .int .i64 0, .slice none 0 0] 31 (0, 0))) := by show _ = _; rw [← hw1, ← hr]; exact heap_alloc_new w _
  have HRL : Hid (r < p ∧ w.heap.size = r ∧ w1.heap.size = p ∧ p < w2.heap.size) := ⟨by rw [← hp]; exact (Array.getElem?_eq_some_iff.1 HR1.out).1, hr, hp, by rw [← hw2, ← hp]; simp⟩
  have HR2 : Hid (w2.heap[r]? = some (.cells #[.int .i64 0, .string ⟨#[]⟩, .int .i64 0, .slice none 0 0] 31 (0, 0))) := (HB12.out.block r (by have := HRL.out; omega)).trans HR1.out
  have HE2 : Hid (w2.ownsRow p 31 4 (.slice (some ⟨p, 0, none⟩) 0 0) 0 []) := ⟨rfl, .inr ⟨p, 0, #[], rfl, Nat.le_refl _, by rw [← hw2, ← hp]; exact heap_alloc_new w1 _, Nat.le_refl _, by decide, rfl, rfl⟩⟩
  have HC : Hid (∀ j u, xs[j]? = some u → w2.cell? (ad.add j) = some u) := fun j u hj => by
    have h := hc j u hj
    have h' := (HB1.out.cell (World.block_lt_of_cell? _ _ h)).trans h
    exact (HB12.out.cell (World.block_lt_of_cell? _ _ h')).trans h'
  have HL := Pl.hid hl
  have H1 := Pl.hid h1
  have HP2 : Hid (p ≤ w2.heap.size) := by have := HRL.out; show _ ≤ _; omega
  clear hc hl h1 HR1
  go_enter Tryd.func25, Tryd.ntmps25
  go_wp2_with (first
    | (at_builtin; refine Mm.wp_appN w2 rfl _ _ (by rfl) p (.slice (some ⟨p, 0, none⟩) 0 0) ad m c xs (by rfl) (by rfl) HE2.out HP2.out HL.out HC.out H1.out hm ?_; intro v3 w3 ho3 hg3; have HO3 := Pl.hid ho3; have HG3 := Pl.hid hg3; have hr3 := (hg3.block r (by have := HRL.out; omega) (fun e => by injection e with e; have e : r = p := e; have := HRL.out; omega)).trans HR2.out; clear ho3 hg3; obtain ⟨va, vn, vk, rfl⟩ := Mm.row_slice HO3.out)
    | (refine Mm.wp_store4 _ rfl _ _ rfl r _ _ _ _ _ _ hr3 rfl rfl rfl (by intro u hu; simp only [List.mem_cons, List.mem_nil_iff, or_false] at hu; rcases hu with rfl | rfl | rfl | rfl <;> rfl) ?_; intro wf hwf hsf hgf; clear hsf; have HWF := Pl.hid hwf; have HGF := Pl.hid hgf; clear hwf hgf))
  refine bodyPost_ret (Mm.res_cell rfl _ wf r _ _ _ _ _ _ rfl HWF.out) rfl ?_
  have hrl := HRL.out
  have b1 := HB1.out
  have b2 : Below w.heap.size w w2 := b1.trans (HB12.out.mono b1.size)
  have b3 : Below w.heap.size w w3 := b2.grown HG3.out b2.size (fun k hk => by injection hk with hk; have hk : p = k := hk; omega)
  refine ⟨_, rfl, ?_, b3.grown HGF.out b3.size (fun k hk => by injection hk with hk; omega)⟩
  have h2 := Mm.ownsRowR_keep HO3.out (w' := wf) (fun g hg => HGF.out.block g (Mm.ownsRow_lt HO3.out hg) (fun e => by
    injection e with e
    rcases HO3.out.2 with ⟨e', _⟩ | ⟨g', cap, cur, e', hle, _⟩
    · rw [e'] at hg; cases hg
    · rw [e'] at hg
      injection hg with hg
      have hg : g' = g := hg
      omega))
  exact ⟨h2.1, by
    rcases h2.2 with h | ⟨g', cap, cur, e', hle, r⟩
    · exact .inl h
    · exact .inr ⟨g', cap, cur, e', by omega, r⟩⟩
end Go.Proofs.YtakldjdohgmeiaaDoor

namespace Go.Proofs.YtakldjdohgmeiaaDoor
open Go.RowKit
set_option maxRecDepth 20000

namespace RT
open Pl
/-- a line's head that is broken off -/
theorem hd_cut1 {f : UInt8} {s p q : List UInt8} (hf : kd f ≠ 0) (hs : noEnd s = true) (h : f :: (s ++ [13, 10]) = p ++ q) (hq : q ≠ []) : hdR p = .bad 5 := by
  cases p with
  | nil => rfl
  | cons c p =>
    simp only [List.cons_append, List.cons.injEq] at h
    obtain ⟨rfl, h⟩ := h
    have e := line_short hs h hq
    rw [hdR, if_neg hf, if_pos (by rw [e]; decide), e]
theorem hd_cut {k : Int} {s : ByteArray} {n : Int} {ln : Nat} (h : okHead k s n ln = true) (hs : s.size ≤ 16777216) {p q : List UInt8} (he : encH k s n ln = p ++ q) (hq : q ≠ []) : hdR p = .bad 5 := by
  rcases okHead_cases h with ⟨rfl, h1, rfl, h2⟩ | ⟨rfl, h1, rfl, h2⟩ | ⟨rfl, rfl, h2⟩ | ⟨rfl, rfl, h2⟩ | ⟨rfl, rfl, rfl, h2⟩ | ⟨rfl, rfl, rfl, h2⟩ | ⟨rfl, rfl, rfl⟩
  · refine hd_cut1 (f := 43) (s := L s) (by decide) h1 ?_ hq
    rw [← he]
    simp [encH, crlf]
  · refine hd_cut1 (f := 45) (s := L s) (by decide) h1 ?_ hq
    rw [← he]
    simp [encH, crlf]
  · refine hd_cut1 (f := 58) (s := Lib.itoa n) (by decide) (noEnd_digits fun c hc => itoa_ge hc) ?_ hq
    rw [← he]
    simp [encH, crlf]
  · have hsz : (L s).length ≤ 16777216 := by rw [L_length]; exact hs
    have he' : 36 :: ((Lib.decDigits (L s).length ++ [13, 10]) ++ (L s ++ [13, 10])) = p ++ q := by
      rw [← he]
      simp [encH, bulkE, crlf]
    have hd := noEnd_digits (l := Lib.decDigits (L s).length) fun c hc => dec_ge hc
    cases p with
    | nil => rfl
    | cons c p =>
      simp only [List.cons_append, List.cons.injEq] at he'
      obtain ⟨rfl, he'⟩ := he'
      have key : ∀ a : List UInt8, p ++ a = Lib.decDigits (L s).length ++ [13, 10] → a ≠ [] → hdR (36 :: p) = .bad 5 := by
        intro a ha hne
        exact hd_cut1 (f := 36) (p := 36 :: p) (by decide) hd (by rw [List.cons_append, ha]) hne
      rcases List.append_eq_append_iff.1 he' with ⟨a, h1, h3⟩ | ⟨a, h1, h3⟩
      · have e := line_ok (Lib.decDigits (L s).length) a hd
        obtain ⟨v, c⟩ := rI_dec' (L s).length (by omega)
        have e' : lineR p = (0, Lib.decDigits (L s).length, a) := by
          rw [h1, ← e]
          simp
        have hlen : a.length < (L s).length + 2 := by
          have := congrArg List.length h3
          have h0 : 0 < q.length := List.length_pos_iff.2 hq
          simp only [List.length_append, List.length_cons, List.length_nil] at this
          omega
        have ek : kd 36 = 4 := by decide
        have n1 : ¬ (((L s).length : Nat) : Int) = -1 := by omega
        have n2 : ¬ (16777216 : Int) < (((L s).length : Nat) : Int) := by omega
        have n3 : ¬ (((L s).length : Nat) : Int) < -1 := by omega
        have eb : bulkR (L s).length a = (5, [], []) := by unfold bulkR; rw [if_pos hlen]
        simp only [hdR, ek, e', v, c, numR, n1, n2, n3, Int.toNat_natCast, eb]
        simp
      · by_cases ha : a = []
        · subst ha
          rw [List.append_nil] at h1
          have e := line_ok (Lib.decDigits (L s).length) [] hd
          obtain ⟨v, c⟩ := rI_dec' (L s).length (by omega)
          have e' : lineR p = (0, Lib.decDigits (L s).length, []) := by rw [← h1, ← e]
          have ek : kd 36 = 4 := by decide
          have n1 : ¬ (((L s).length : Nat) : Int) = -1 := by omega
          have n2 : ¬ (16777216 : Int) < (((L s).length : Nat) : Int) := by omega
          have n3 : ¬ (((L s).length : Nat) : Int) < -1 := by omega
          have eb : bulkR (L s).length [] = (5, [], []) := by unfold bulkR; rw [if_pos (by simp)]
          simp only [hdR, ek, e', v, c, numR, n1, n2, n3, Int.toNat_natCast, eb]
          simp
        · exact key a h1.symm ha
  · refine hd_cut1 (f := 36) (s := [45, 49]) (by decide) (by decide) ?_ hq
    rw [← he]
    simp [encH]
  · refine hd_cut1 (f := 42) (s := [45, 49]) (by decide) (by decide) ?_ hq
    rw [← he]
    simp [encH]
  · refine hd_cut1 (f := 42) (s := Lib.decDigits ln) (by decide) (noEnd_digits fun c hc => dec_ge hc) ?_ hq
    rw [← he]
    simp [encH, crlf]
theorem decN_cut {f : List UInt8 → Int × RT × List UInt8} : ∀ (l : List RT) (ts : List RT) (p q : List UInt8), (∀ t ∈ l, ∀ r', f (t.enc ++ r') = (0, t, r')) → (∀ t ∈ l, ∀ p' q', t.enc = p' ++ q' → q' ≠ [] → (f p').1 = 5) → encL l = p ++ q → q ≠ [] → (decN f l.length ts p).1 = 5
  | [], ts, p, q, _, _, h, hq => by
    simp only [encL] at h
    exact absurd (List.append_eq_nil_iff.1 h.symm).2 hq
  | t :: l, ts, p, q, h1, h2, h, hq => by
    simp only [encL] at h
    simp only [List.length_cons, decN]
    have ih := fun ts' p' (e : encL l = p' ++ q) => decN_cut l ts' p' q (fun t' ht' => h1 t' (by simp [ht'])) (fun t' ht' => h2 t' (by simp [ht'])) e hq
    rcases List.append_eq_append_iff.1 h with ⟨a, e1, e2⟩ | ⟨a, e1, e2⟩
    · have := h1 t (by simp) a
      rw [e1, this, if_pos rfl]
      exact ih _ _ e2
    · by_cases ha : a = []
      · subst ha
        rw [List.append_nil] at e1
        have := h1 t (by simp) []
        rw [List.append_nil] at this
        rw [← e1, this, if_pos rfl]
        exact ih _ _ (by rw [List.nil_append] at e2 ⊢; exact e2.symm)
      · have := h2 t (by simp) p a e1 ha
        rw [if_neg (by rw [this]; decide), this]
/-- broken off anywhere it is too short -/
theorem dec_cut : ∀ (d : Nat) (t : RT), t.ok = true → t.In → t.depth ≤ d → t.enc.length ≤ 16777216 → ∀ p q, t.enc = p ++ q → q ≠ [] → (decR d p).1 = 5 := by
  intro d
  induction d with
  | zero =>
    intro t hok hin hd hl p q he hq
    obtain ⟨k, s, n, l⟩ := t
    rw [ok_mk, Bool.and_eq_true] at hok
    rw [depth_mk] at hd
    have hk : k ≠ 6 := fun e => by rw [if_pos e] at hd; omega
    have ht := encH_text hok.1
    have hln : l = [] := by
      rcases okHead_cases hok.1 with ⟨_, _, _, h⟩ | ⟨_, _, _, h⟩ | ⟨_, _, h⟩ | ⟨_, _, h⟩ | ⟨_, _, _, h⟩ | ⟨_, _, _, h⟩ | ⟨h, _⟩
      all_goals first | exact List.eq_nil_of_length_eq_zero h | exact absurd h hk
    subst hln
    rw [enc_mk, List.length_append] at hl
    rw [enc_mk, show encL [] = [] by simp [encL], List.append_nil] at he
    rw [decR_bad (hd_cut hok.1 (by omega) he hq) 0]
  | succ d ih =>
    intro t hok hin hd hl p q he hq
    obtain ⟨k, s, n, l⟩ := t
    rw [ok_mk, Bool.and_eq_true] at hok
    rw [depth_mk] at hd
    have ht := encH_text hok.1
    have hle : 3 * l.length ≤ (encL l).length := encL_len l fun t ht => (sz_enc t (okL_mem hok.2 ht)).2
    rw [enc_mk, List.length_append] at hl
    rw [enc_mk] at he
    by_cases hk : k = 6
    · rw [if_pos hk] at hd
      have arr : ∀ a : List UInt8, p = encH k s n l.length ++ a → encL l = a ++ q → (decR (d + 1) p).1 = 5 := by
        intro a e1 e2
        have hh := hd_enc hok.1 hin.num (by omega) (by omega) a
        rw [if_pos hk] at hh
        rw [e1, decR_arr hh d]
        have := decN_cut l [] a q (fun t' ht' r' => dec_enc d t' (okL_mem hok.2 ht') (hin.list t' ht') (by have := depthL_mem ht'; omega) (by have := encL_mem ht'; omega) r') (fun t' ht' p' q' e hq' => ih t' (okL_mem hok.2 ht') (hin.list t' ht') (by have := depthL_mem ht'; omega) (by have := encL_mem ht'; omega) p' q' e hq') e2 hq
        unfold arrR
        rw [if_neg (by rw [this]; decide), this]
      rcases List.append_eq_append_iff.1 he with ⟨a, e1, e2⟩ | ⟨a, e1, e2⟩
      · exact arr a e1 e2
      · by_cases ha : a = []
        · subst ha
          rw [List.append_nil] at e1
          exact arr [] (by rw [← e1, List.append_nil]) (by rw [List.nil_append] at e2 ⊢; exact e2.symm)
        · rw [decR_bad (hd_cut hok.1 (by omega) e1 ha) (d + 1)]
    · have hln : l = [] := by
        rcases okHead_cases hok.1 with ⟨_, _, _, h⟩ | ⟨_, _, _, h⟩ | ⟨_, _, h⟩ | ⟨_, _, h⟩ | ⟨_, _, _, h⟩ | ⟨_, _, _, h⟩ | ⟨h, _⟩
        all_goals first | exact List.eq_nil_of_length_eq_zero h | exact absurd h hk
      subst hln
      rw [show encL [] = [] by simp [encL], List.append_nil] at he
      rw [decR_bad (hd_cut hok.1 (by omega) he hq) (d + 1)]
theorem nul_of_bad : ∀ (d : Nat) (l : List UInt8), (decR d l).1 ≠ 0 → (decR d l).2.1 = nul := by
  intro d l h
  cases d with
  | zero =>
    unfold decR at *
    split at h <;> first | rfl | exact absurd rfl h
  | succ d =>
    unfold decR at *
    split at h
    · rfl
    · exact absurd rfl h
    · unfold arrR at *
      split
      · rename_i e
        rw [if_pos e] at h
        exact absurd rfl h
      · rfl

/-! plain -/
def strip (s : ByteArray) : ByteArray := B ((L s).filter fun c => !isEnd c)
def kp (k : Int) : Int := k.emod 7 + 1
/-- what plain makes of a reply without a list -/
def plH (k : Int) (s : ByteArray) (n : Int) : RT :=
  if kp k ≤ 2 then .mk (kp k) (strip s) 0 [] else if kp k = 3 then .mk 3 ⟨#[]⟩ n [] else if kp k = 4 then .mk 4 s 0 [] else .mk (kp k) ⟨#[]⟩ 0 []
def plainR : Nat → RT → RT
  | 0, .mk k s n _ => if kp k = 6 then .mk 7 ⟨#[]⟩ 0 [] else plH k s n
  | g + 1, .mk k s n l => if l ≠ [] ∨ kp k = 6 then .mk 6 ⟨#[]⟩ 0 (l.map (plainR g)) else plH k s n
theorem kp_range (k : Int) : 1 ≤ kp k ∧ kp k ≤ 7 := by
  unfold kp
  have h1 := Int.emod_nonneg k (show (7 : Int) ≠ 0 by decide)
  have h2 := Int.emod_lt_of_pos k (show (0 : Int) < 7 by decide)
  simp only [HMod.hMod, Mod.mod] at h1 h2
  omega
theorem strip_noEnd (s : ByteArray) : noEnd (L (strip s)) = true := by
  unfold strip
  rw [L_B]
  unfold noEnd
  rw [List.all_eq_true]
  intro c hc
  exact (List.mem_filter.1 hc).2
theorem strip_size (s : ByteArray) : (strip s).size ≤ s.size := by
  have h1 : (strip s).size = (L (strip s)).length := (L_length _).symm
  rw [h1]
  unfold strip
  rw [L_B, ← L_length s]
  exact List.length_filter_le _ _
theorem plH_ok (k : Int) (s : ByteArray) (n : Int) (h6 : kp k ≠ 6) (hn : In64 n) : (plH k s n).ok = true ∧ (plH k s n).In ∧ (plH k s n).depth = 0 ∧ (plH k s n).sz ≤ s.size + 25 := by
  have hno : ∀ t' : RT, t' ∈ ([] : List RT) → In t' := fun t' ht' => by cases ht'
  have h0 : In64 0 := by unfold In64; omega
  have e0 : (⟨#[]⟩ : ByteArray).size = 0 := rfl
  have hs := strip_size s
  have hse := strip_noEnd s
  obtain ⟨r1, r2⟩ := kp_range k
  unfold plH
  by_cases h1 : kp k ≤ 2
  · rw [if_pos h1]
    rcases (show kp k = 1 ∨ kp k = 2 by omega) with e | e <;> rw [e]
    · refine ⟨by simp [ok, okL, okHead, hse], .mk _ _ _ _ h0 hno, by simp [depth], ?_⟩
      simp only [sz_mk, szL]; omega
    · refine ⟨by simp [ok, okL, okHead, hse], .mk _ _ _ _ h0 hno, by simp [depth], ?_⟩
      simp only [sz_mk, szL]; omega
  · rw [if_neg h1]
    by_cases h3 : kp k = 3
    · rw [if_pos h3]
      refine ⟨by simp [ok, okL, okHead, e0], .mk _ _ _ _ hn hno, by simp [depth], ?_⟩
      simp only [sz_mk, szL, e0]; omega
    · rw [if_neg h3]
      by_cases h4 : kp k = 4
      · rw [if_pos h4]
        refine ⟨by simp [ok, okL, okHead], .mk _ _ _ _ h0 hno, by simp [depth], ?_⟩
        simp only [sz_mk, szL]; omega
      · rw [if_neg h4]
        rcases (show kp k = 5 ∨ kp k = 7 by omega) with e | e <;> rw [e]
        · refine ⟨by simp [ok, okL, okHead, e0], .mk _ _ _ _ h0 hno, by simp [depth], ?_⟩
          simp only [sz_mk, szL, e0]; omega
        · refine ⟨by simp [ok, okL, okHead, e0], .mk _ _ _ _ h0 hno, by simp [depth], ?_⟩
          simp only [sz_mk, szL, e0]; omega
theorem plainL (g : Nat) : ∀ l : List RT, (∀ t ∈ l, (plainR g t).ok = true ∧ (plainR g t).In ∧ (plainR g t).depth ≤ g ∧ (plainR g t).sz ≤ t.sz) →
    okL (l.map (plainR g)) = true ∧ (∀ t ∈ l.map (plainR g), t.In) ∧ depthL (l.map (plainR g)) ≤ g ∧ szL (l.map (plainR g)) ≤ szL l
  | [], _ => ⟨by simp [okL], fun t ht => (by cases ht), by simp [depthL], by simp [szL]⟩
  | t :: l, h => by
    obtain ⟨a1, a2, a3, a4⟩ := h t (by simp)
    obtain ⟨b1, b2, b3, b4⟩ := plainL g l fun t' ht' => h t' (by simp [ht'])
    refine ⟨by simp [okL, a1, b1], fun t' ht' => ?_, by simp only [List.map_cons, depthL]; omega, by simp only [List.map_cons, szL]; omega⟩
    rw [List.map_cons] at ht'
    rcases List.mem_cons.1 ht' with rfl | ht'
    · exact a2
    · exact b2 t' ht'
theorem plain_ok : ∀ (g : Nat) (t : RT), t.In → (plainR g t).ok = true ∧ (plainR g t).In ∧ (plainR g t).depth ≤ g ∧ (plainR g t).sz ≤ t.sz := by
  have hno : ∀ t' : RT, t' ∈ ([] : List RT) → In t' := fun t' ht' => by cases ht'
  have h0 : In64 0 := by unfold In64; omega
  have e0 : (⟨#[]⟩ : ByteArray).size = 0 := rfl
  intro g
  induction g with
  | zero =>
    intro t ht
    obtain ⟨k, s, n, l⟩ := t
    simp only [plainR]
    by_cases h6 : kp k = 6
    · rw [if_pos h6]
      refine ⟨by simp [ok, okL, okHead, e0], .mk _ _ _ _ h0 hno, by simp [depth], ?_⟩
      simp only [sz_mk, szL, e0]; omega
    · rw [if_neg h6]
      obtain ⟨a, b, c, d⟩ := plH_ok k s n h6 ht.num
      exact ⟨a, b, by omega, by rw [sz_mk]; omega⟩
  | succ g ih =>
    intro t ht
    obtain ⟨k, s, n, l⟩ := t
    simp only [plainR]
    by_cases h6 : l ≠ [] ∨ kp k = 6
    · rw [if_pos h6]
      obtain ⟨b1, b2, b3, b4⟩ := plainL g l fun t' ht' => ih t' (ht.list t' ht')
      refine ⟨by simp [ok, okHead, e0, b1], .mk _ _ _ _ h0 b2, by rw [depth_mk, if_pos rfl]; omega, ?_⟩
      simp only [sz_mk, e0]; omega
    · rw [if_neg h6]
      obtain ⟨a, b, c, d⟩ := plH_ok k s n (fun e => h6 (.inr e)) ht.num
      exact ⟨a, b, by omega, by rw [sz_mk]; omega⟩
end RT
end Go.Proofs.YtakldjdohgmeiaaDoor

namespace Go.Proofs.YtakldjdohgmeiaaDoor
open Go.RowKit
set_option maxRecDepth 20000

namespace RT
open Pl
/-- what was written is read again -/
theorem dec_of_enc {t : RT} (hok : t.ok = true) (hin : t.In) (hd : t.depth ≤ 8) (hl : t.enc.length ≤ 16777216) (r : List UInt8) : dcode (t.enc ++ r) = 0 ∧ dtree (t.enc ++ r) = t ∧ dsize (t.enc ++ r) = t.enc.length := by
  have h := dec_enc 8 t hok hin hd hl r
  have h1 : (decR 8 (t.enc ++ r)).1 = 0 := by rw [h]
  have h2 : (decR 8 (t.enc ++ r)).2.2 = r := by rw [h]
  have h3 : (t.enc ++ r).length - (decR 8 (t.enc ++ r)).2.2.length = t.enc.length := by rw [h2, List.length_append]; omega
  obtain ⟨g1, g2, g3⟩ := dec_good h1 (by rw [h3]; omega)
  exact ⟨g1, by rw [g2, h], by rw [g3, h3]⟩
def wkA : RT := .mk 6 ⟨#[]⟩ 0 [.mk 3 ⟨#[]⟩ (-7) [], .mk 4 ⟨#[104, 105]⟩ 0 [], .mk 5 ⟨#[]⟩ 0 [], .mk 1 ⟨#[79, 75]⟩ 0 []]
def wkB : RT := .mk 6 ⟨#[]⟩ 0 [.mk 3 ⟨#[]⟩ 1 [], .mk 5 ⟨#[]⟩ 0 []]
def wkL : List UInt8 := [42, 50, 13, 10, 58, 49, 13, 10, 36, 45, 49, 13, 10]
theorem wkA_ok : wkA.ok = true := by decide +kernel
theorem wkB_ok : wkB.ok = true := by decide +kernel
theorem wkA_enc : wkA.enc = [42, 52, 13, 10, 58, 45, 55, 13, 10, 36, 50, 13, 10, 104, 105, 13, 10, 36, 45, 49, 13, 10, 43, 79, 75, 13, 10] := by decide +kernel
theorem wkB_enc : wkB.enc = wkL := by decide +kernel
theorem wkA_depth : wkA.depth = 1 := by decide +kernel
theorem wkB_depth : wkB.depth = 1 := by decide +kernel
theorem wkA_sz : wkA.sz ≤ 1000 := by decide +kernel
theorem wkB_sz : wkB.sz ≤ 1000 := by decide +kernel
theorem leaf_in (k : Int) (s : ByteArray) (n : Int) (h : In64 n) : In (.mk k s n []) := .mk _ _ _ _ h fun t ht => by cases ht
theorem wkA_in : wkA.In := .mk _ _ _ _ (by unfold In64; omega) fun t ht => by
  simp only [List.mem_cons, List.mem_nil_iff, or_false] at ht
  rcases ht with rfl | rfl | rfl | rfl <;> exact leaf_in _ _ _ (by unfold In64; omega)
theorem wkB_in : wkB.In := .mk _ _ _ _ (by unfold In64; omega) fun t ht => by
  simp only [List.mem_cons, List.mem_nil_iff, or_false] at ht
  rcases ht with rfl | rfl <;> exact leaf_in _ _ _ (by unfold In64; omega)
theorem wkA_code : wkA.code = 0 ∧ wkA.out = wkA.enc := co_good wkA_ok (by rw [wkA_depth]; decide) (by rw [wkA_enc]; decide)
theorem wkB_dec : dcode wkL = 0 ∧ dtree wkL = wkB ∧ dsize wkL = 13 := by
  have := dec_of_enc wkB_ok wkB_in (by rw [wkB_depth]; decide) (by rw [wkB_enc]; decide) []
  rw [List.append_nil, wkB_enc] at this
  exact this
end RT

theorem Mm.row4 (w : World) : Mm.RowB w [.mk 3 ⟨#[]⟩ (-7) [], .mk 4 ⟨#[104, 105]⟩ 0 [], .mk 5 ⟨#[]⟩ 0 [], .mk 1 ⟨#[79, 75]⟩ 0 []] [.int .i64 3, .string ⟨#[]⟩, .int .i64 (-7), .slice none 0 0, .int .i64 4, .string ⟨#[104, 105]⟩, .int .i64 0, .slice none 0 0, .int .i64 5, .string ⟨#[]⟩, .int .i64 0, .slice none 0 0, .int .i64 1, .string ⟨#[79, 75]⟩, .int .i64 0, .slice none 0 0] [] :=
  .cons _ _ _ _ [] [] (Mm.leaf_rep w 3 ⟨#[]⟩ (-7)) (.cons _ _ _ _ [] [] (Mm.leaf_rep w 4 ⟨#[104, 105]⟩ 0) (.cons _ _ _ _ [] [] (Mm.leaf_rep w 5 ⟨#[]⟩ 0) (.cons _ _ _ _ [] [] (Mm.leaf_rep w 1 ⟨#[79, 75]⟩ 0) .nil)))
theorem Mm.row2 (w : World) : Mm.RowB w [.mk 3 ⟨#[]⟩ 1 [], .mk 5 ⟨#[]⟩ 0 []] [.int .i64 3, .string ⟨#[]⟩, .int .i64 1, .slice none 0 0, .int .i64 5, .string ⟨#[]⟩, .int .i64 0, .slice none 0 0] [] :=
  .cons _ _ _ _ [] [] (Mm.leaf_rep w 3 ⟨#[]⟩ 1) (.cons _ _ _ _ [] [] (Mm.leaf_rep w 5 ⟨#[]⟩ 0) .nil)
theorem Mm.RepX.of_row {w : World} {lo : Nat} {v : Value} {ts : List RT} {xs : List Value} {bs : List Nat} (h : w.ownsRow lo 31 4 v ts.length xs) (hr : Mm.RowB w ts xs bs) (k : Int) (s : ByteArray) (n : Int) : Mm.RepX w (.mk k s n ts) [.int .i64 k, .string s, .int .i64 n, v] :=
  ⟨_, .mk k s n ts v xs bs ⟨h.1, by
    rcases h.2 with h | ⟨g', cap, cur, e', hle, r⟩
    · exact .inl h
    · exact .inr ⟨g', cap, cur, e', Nat.zero_le _, r⟩⟩ hr⟩

set_option maxHeartbeats 8000000 in
theorem wakes16_walk (W w : World) (hT : Mm.Tab W) (hU : Mm.U8 W) (hX : Mm.MaxI W) (hE : Mm.Errs W) (hW : Below W.heap.size W w) :
    Calls Tryd.prog 10 #[] w fun e w' => e = .returned (.bool true) ∧ Below w.heap.size w w' := by
  have HT := Pl.hid hT
  have HU := Pl.hid hU
  have HX := Pl.hid hX
  have HE := Pl.hid hE
  have HW := Pl.hid hW
  clear hT hU hX hE hW
  go_enter Tryd.func10, Tryd.ntmps10
  go_wp2_with fail
  refine (mk_int (-7) w).mono ?_
  rintro e w1 ⟨rfl, hb1⟩
  have HB1 := Pl.hid hb1
  clear hb1
  go_wp2_with fail
  refine (mk_bulk ⟨#[104, 105]⟩ w1).mono ?_
  rintro e w2 ⟨rfl, hb2⟩
  have HB2 := Pl.hid (HB1.out.trans (hb2.mono HB1.out.size))
  clear hb2
  go_wp2_with fail
  refine (mk_null w2).mono ?_
  rintro e w3 ⟨rfl, hb3⟩
  have HB3 := Pl.hid (HB2.out.trans (hb3.mono HB2.out.size))
  clear hb3
  go_wp2_with fail
  refine (mk_simple ⟨#[79, 75]⟩ w3).mono ?_
  rintro e w4 ⟨rfl, hb4⟩
  have HB4 := Pl.hid (HB3.out.trans (hb4.mono HB3.out.size))
  clear hb4
  obtain ⟨g, hg⟩ : ∃ g, w4.heap.size = g := ⟨_, rfl⟩
  obtain ⟨xa, hxa⟩ : ∃ xa : List Value, xa = [.int .i64 3, .string ⟨#[]⟩, .int .i64 (-7), .slice none 0 0, .int .i64 4, .string ⟨#[104, 105]⟩, .int .i64 0, .slice none 0 0, .int .i64 5, .string ⟨#[]⟩, .int .i64 0, .slice none 0 0, .int .i64 1, .string ⟨#[79, 75]⟩, .int .i64 0, .slice none 0 0] := ⟨_, rfl⟩
  obtain ⟨w5, hw5⟩ : ∃ w5, w4.alloc (.cells #[.int .i64 3, .string ⟨#[]⟩, .int .i64 (-7), .slice none 0 0, .int .i64 4, .string ⟨#[104, 105]⟩, .int .i64 0, .slice none 0 0, .int .i64 5, .string ⟨#[]⟩, .int .i64 0, .slice none 0 0, .int .i64 1, .string ⟨#[79, 75]⟩, .int .i64 0, .slice none 0 0] 31) = w5 := ⟨_, rfl⟩
  have HB45 : Hid (Below w4.heap.size w4 w5) := by rw [← hw5]; exact (Below.refl _ _).alloc (Nat.le_refl _) _
  have HB5 : Hid (Below w.heap.size w w5) := HB4.out.trans (HB45.out.mono HB4.out.size)
  have HAR := Pl.hid (array_walk w5 ⟨g, 0, none⟩ 4 4 xa (by rw [hxa]; rfl) (fun j u hj => by
    have e : (⟨g, 0, none⟩ : Addr).add j = ⟨g, j, none⟩ := by unfold Addr.add; split <;> simp_all
    rw [e, ← hw5, ← hg, World.cell?_alloc_mark]
    rw [hxa] at hj
    simpa using hj) (by rw [hxa]; intro u hu; exact (Mm.row4 w).one u hu) (by decide))
  have HXA := Pl.hid hxa
  clear hxa
  go_wp2_with fail
  refine HAR.out.mono ?_
  rintro e w6 ⟨v6, rfl, ho6, hb6⟩
  have HX6 : Hid (Mm.RepX w6 RT.wkA [.int .i64 6, .string ⟨#[]⟩, .int .i64 0, v6]) := by
    rw [HXA.out] at ho6
    exact Mm.RepX.of_row ho6 (Mm.row4 w6) 6 ⟨#[]⟩ 0
  have HB6 := Pl.hid (HB5.out.trans (hb6.mono HB5.out.size))
  have HS6 : Hid (∃ a k c, v6 = .slice a k c) := Mm.row_slice ho6
  clear ho6 hb6 HAR hw5 hg
  obtain ⟨va, vk, vc, rfl⟩ := HS6.out
  obtain ⟨y, hy⟩ : ∃ y, w6.heap.size = y := ⟨_, rfl⟩
  go_wp2_with (refine Mm.wp_store4 _ rfl _ _ rfl y _ _ _ _ _ _ (by rw [← hy]; exact heap_alloc_new w6 _) rfl rfl rfl HX6.out.one ?_; intro w7 hw7 hs7 hg7; clear hs7; have HB67 := Pl.hid (Mm.newcell4 (by rw [hy]; exact hg7)); have k0 := Mm.cell_of hw7 (i := 0) rfl; have k1 := Mm.cell_of hw7 (i := 1) rfl; have k2 := Mm.cell_of hw7 (i := 2) rfl; have k3 := Mm.cell_of hw7 (i := 3) rfl; clear hw7 hg7)
  have HB7 := Pl.hid (HB6.out.trans (HB67.out.mono HB6.out.size))
  have HWs := Pl.hid HW.out.size
  refine (encode_walk w6 (HT.out.on (HW.out.trans (HB6.out.mono HWs.out))) RT.wkA RT.wkA_in (Nat.le_trans RT.wkA_sz (by decide)) _ _ _ _ HX6.out w7 HB67.out).mono ?_
  rw [RT.wkA_code.1, RT.wkA_code.2]
  rintro e w8 ⟨v8, rfl, ho8, hb8⟩
  have HO8 := Pl.hid ho8
  have HB8 := Pl.hid (HB7.out.trans (hb8.mono HB7.out.size))
  have HS8 : Hid (∃ a k c, v8 = .slice a k c) := by obtain ⟨a, c, h, _⟩ := ho8.val; exact ⟨_, _, _, h⟩
  clear ho8 hb8 k0 k1 k2 k3 hy
  obtain ⟨ba, bk, bc, rfl⟩ := HS8.out
  obtain ⟨wz, hwz⟩ : ∃ wz, wz = w8.alloc (.cells (Pl.bytesV RT.wkL).toArray 5 (13, 14)) := ⟨_, rfl⟩
  have HCV : Hid ((convert 24 24 (.slice (some ⟨w8.heap.size, 0, none⟩) 13 13)).run Tryd.prog (w8.alloc (.cells #[.int .u8 42, .int .u8 50, .int .u8 13, .int .u8 10, .int .u8 58, .int .u8 49, .int .u8 13, .int .u8 10, .int .u8 36, .int .u8 45, .int .u8 49, .int .u8 13, .int .u8 10] 5)) = .ok (.slice (some ⟨w8.heap.size, 0, none⟩) 13 13) wz) := by
    show _ = _
    rw [hwz]
    exact Lib.run_convert_bytes_const w8 _ _ _ 13 13 Tryd.underlying24 Tryd.underlying5
  have HBS : Hid (Mm.Bs wz (.slice (some ⟨w8.heap.size, 0, none⟩) 13 13) RT.wkL) := by rw [hwz]; exact Mm.bs_alloc w8 RT.wkL _ 13 rfl
  have HA : Hid (Below w8.heap.size w8 wz) := by rw [hwz]; exact (Below.refl _ _).alloc (Nat.le_refl _) _
  have HBZ := Pl.hid (HB8.out.trans (HA.out.mono HB8.out.size))
  have HWZ := Pl.hid (HW.out.trans (HBZ.out.mono HWs.out))
  have hcv := HCV.out
  clear hwz
  go_wp2_with fail
  refine (decode_walk wz (HU.out.on HWZ.out) (HX.out.on HWZ.out) (HE.out.on HWZ.out) _ RT.wkL HBS.out (by decide)).mono ?_
  rw [RT.wkB_dec.1, RT.wkB_dec.2.1, RT.wkB_dec.2.2]
  rintro e w9 ⟨c0, c1, c2, c3, rfl, ho9, hb9⟩
  have HO9 := Pl.hid ho9
  have HZ9 := Pl.hid hb9
  have HB9 := Pl.hid (HBZ.out.trans (hb9.mono HBZ.out.size))
  clear ho9 hb9 hcv
  obtain ⟨y, hy⟩ : ∃ y, w9.heap.size = y := ⟨_, rfl⟩
  obtain ⟨E, hE⟩ : ∃ E, E = Pl.B RT.wkA.enc := ⟨_, rfl⟩
  have heq : (E.toList == [42, 52, 13, 10, 58, 45, 55, 13, 10, 36, 50, 13, 10, 104, 105, 13, 10, 36, 45, 49, 13, 10, 43, 79, 75, 13, 10]) = true := by
    rw [hE, Lib.toList_data]
    rw [show (Pl.B RT.wkA.enc).data.toList = RT.wkA.enc from Pl.L_B _, RT.wkA_enc]
    decide
  have HEE := Pl.hid hE
  have HST : Hid (∀ wa : World, wa.heap[y]? = some (.cells #[c0, c1, c2, c3] 31 (0, 0)) → Below w9.heap.size w9 wa → Hid (Mm.OwnB wa w7.heap.size (.slice ba bk bc) RT.wkA.enc) ∧ Hid (Below w.heap.size w wa) ∧ Hid (Mm.OwnT wa wz.heap.size RT.wkB [c0, c1, c2, c3]) ∧
      wa.cell? ⟨y, 0, none⟩ = some c0 ∧ wa.cell? ⟨y, 1, none⟩ = some c1 ∧ wa.cell? ⟨y, 2, none⟩ = some c2 ∧ wa.cell? ⟨y, 3, none⟩ = some c3) := fun wa hwa hba => by
    refine ⟨?_, HB9.out.trans (hba.mono HB9.out.size), HO9.out.below hba, Mm.cell_of hwa (i := 0) rfl, Mm.cell_of hwa (i := 1) rfl, Mm.cell_of hwa (i := 2) rfl, Mm.cell_of hwa (i := 3) rfl⟩
    exact HO8.out.keep fun q hq => by
      have h1 := (HO8.out.lt q hq).2
      have h2 := HA.out.size
      have h3 := HZ9.out.size
      exact (hba.block q (by omega)).trans ((HZ9.out.block q (by omega)).trans (HA.out.block q h1))
  clear hE
  go_wp2_with (first
    | (refine Mm.wp_store4 _ rfl _ _ rfl y _ _ _ _ _ _ (by rw [← hy]; exact heap_alloc_new w9 _) rfl rfl rfl HO9.out.one ?_; intro wa hwa hsa hga; clear hsa; obtain ⟨HOA, HBA, HTA, q0, q1, q2, q3⟩ := HST.out wa hwa (Mm.newcell4 (by rw [hy]; exact hga)); clear hwa hga))
  rw [Mm.run_str wa w7.heap.size _ RT.wkA.enc HOA.out, ← HEE.out]
  simp only [Result.andThen]
  rw [Oper.upon_value]
  go_wp2_with fail
  obtain ⟨wb, hwb⟩ : ∃ wb, wa.alloc (.cells #[.int .i64 3, .string ⟨#[]⟩, .int .i64 1, .slice none 0 0, .int .i64 5, .string ⟨#[]⟩, .int .i64 0, .slice none 0 0] 31) = wb := ⟨_, rfl⟩
  have HBAB : Hid (Below wa.heap.size wa wb) := by rw [← hwb]; exact (Below.refl _ _).alloc (Nat.le_refl _) _
  have HXB : Hid (Mm.RepX wb RT.wkB [.int .i64 6, .string ⟨#[]⟩, .int .i64 0, .slice (some ⟨wa.heap.size, 0, none⟩) 2 2]) :=
    Mm.RepX.of_row (lo := 0) (xs := [.int .i64 3, .string ⟨#[]⟩, .int .i64 1, .slice none 0 0, .int .i64 5, .string ⟨#[]⟩, .int .i64 0, .slice none 0 0]) ⟨rfl, .inr ⟨wa.heap.size, 2, #[.int .i64 3, .string ⟨#[]⟩, .int .i64 1, .slice none 0 0, .int .i64 5, .string ⟨#[]⟩, .int .i64 0, .slice none 0 0], rfl, Nat.zero_le _, by rw [← hwb]; exact heap_alloc_new wa _, by decide, by decide, rfl, rfl⟩⟩ (Mm.row2 wb) 6 ⟨#[]⟩ 0
  rw [hwb]
  refine (alike_tree wb RT.wkB (Nat.le_trans RT.wkB_sz (by decide)) _ _ _ _ _ _ _ _ (HTA.out.below HBAB.out).x HXB.out wb (Below.refl _ _)).mono ?_
  rintro e wf ⟨rfl, hbf⟩
  have HBF := Pl.hid (HBA.out.trans ((HBAB.out.trans (hbf.mono HBAB.out.size)).mono HBA.out.size))
  clear hbf hwb
  go_wp2_with fail
  go_ret
  exact ⟨rfl, HBF.out⟩
end Go.Proofs.YtakldjdohgmeiaaDoor
