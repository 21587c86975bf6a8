/- pantrylaw16.tree: some tree of bounded weight, in blocks of its own. Conditions: the list of nodes reads as it must, its weight is small. pantrylaw16.twin: the same reply, in blocks of its own. Condition: it reads, its weight is small. pantrylaw16.ReplyWrites: the law's walk. Conditions stand in each law. The frame of every law of this seat: if the walk returns true and turns nothing that was there, the law's statement follows. Conditions: what stands in 'lifted': the argument types can be read, one result, a bool. The frame of the laws whose rows list package-level variables: the witness's world, what the list gives. Conditions stand in each law. What an argument of the type []Node lies like in memory, and how great it is under the form's bound. Conditions stand in each law. Conditions stand in each law. -/
import Derived.Test.YtakldjdohgmeiaaDoorBuReplyWrites10
import Derived.BigRegion
import Derived.BigQuiet
import Derived.StillTailTactics
import Derived.Test.YtakldjdohgmeiaaDoorBuReplyWrites3
import Derived.Deep.RegionLaw
import Derived.Test.YtakldjdohgmeiaaDoorBuReplyWrites11
import Derived.Test.YtakldjdohgmeiaaDoorBuReplyWrites12
import Derived.Test.YtakldjdohgmeiaaDoorBuReplyWrites1
import Derived.Test.YtakldjdohgmeiaaDoorRows
import Derived.ProofKit
import Derived.OpenShut
import Derived.ChangeOld
import Derived.Below
import Derived.Deep.DeepHandedRow
import Derived.SizedLaws
import Derived.Test.YtakldjdohgmeiaaDoorBuReplyWrites5
import Derived.Test.YtakldjdohgmeiaaDoorCards
import Derived.Test.YtakldjdohgmeiaaDoorTie
import Derived.Lay
import Derived.MakeChecks
import Derived.Stop.LaidErr
import Derived.Deep.Slices
import Derived.Lib.SmallJoins
namespace Go.Proofs.YtakldjdohgmeiaaDoor
open Go.RowKit
set_option maxRecDepth 20000

/-- a node of the list -/
structure Nd where
  k : Int
  s : ByteArray
  n : Int
  c : Int
def ndW : List Nd → Nat
  | [] => 0
  | x :: l => x.s.size + 25 + ndW l
theorem ndW_drop (l : List Nd) (i : Nat) (h : i < l.length) : ndW (l.drop i) = (l[i]'h).s.size + 25 + ndW (l.drop (i + 1)) := by
  rw [List.drop_eq_getElem_cons h]
  rfl
theorem ndW_le : ∀ (l : List Nd) (i : Nat), ndW (l.drop i) ≤ ndW l
  | [], i => by simp [ndW]
  | x :: l, 0 => by simp
  | x :: l, i + 1 => by
    have := ndW_le l i
    simp only [List.drop_succ_cons, ndW]
    omega

theorem ndW_len : ∀ l : List Nd, 25 * l.length ≤ ndW l
  | [] => by simp [ndW]
  | x :: l => by
    have := ndW_len l
    simp only [ndW, List.length_cons]
    omega

namespace Mm
/-- a list of nodes that came in -/
def NodesV (w : World) (v : Value) (l : List Nd) : Prop :=
  ∃ p cap, v = .slice p l.length cap ∧ (l.length = 0 ∨ ∃ b o, p = some ⟨b, o, none⟩ ∧ b < w.heap.size ∧ ∀ i (hi : i < l.length),
    w.cell? ⟨b, o + i * 4, none⟩ = some (.int .i64 (l[i]'hi).k) ∧ w.cell? ⟨b, o + i * 4 + 1, none⟩ = some (.string (l[i]'hi).s) ∧ w.cell? ⟨b, o + i * 4 + 2, none⟩ = some (.int .i64 (l[i]'hi).n) ∧ w.cell? ⟨b, o + i * 4 + 3, none⟩ = some (.int .i64 (l[i]'hi).c))
end Mm

set_option maxHeartbeats 4000000 in
theorem tree_walk (W : World) (v : Value) (l : List Nd) (hv : Mm.NodesV W v l) (hl : ndW l ≤ 16777216) (hI : ∀ nd ∈ l, Pl.In64 nd.n) : ∀ (g : Nat) (dp : Int), g ≤ 12 → dp = 12 - (g : Int) → ∀ (at_ : Nat) (w : World), at_ ≤ l.length → Below W.heap.size W w →
    Calls Tryd.prog 18 #[v, .int .i64 at_, .int .i64 dp] w fun e w' => ∃ (t : RT) (c0 c1 c2 c3 : Value) (j : Nat), e = .returned (.tuple #[.agg #[c0, c1, c2, c3], .int .i64 j]) ∧ Mm.OwnT w' w.heap.size t [c0, c1, c2, c3] ∧
      Below w.heap.size w w' ∧ at_ ≤ j ∧ j ≤ l.length ∧ (at_ < l.length → at_ < j ∧ t.sz + ndW (l.drop j) ≤ ndW (l.drop at_)) ∧ t.sz ≤ ndW l + 25 ∧ t.In := by
  have HII := Pl.hid hI
  clear hI
  intro g
  induction g using Nat.strongRecOn with
  | _ g ih =>
    intro dp hg hdp at_ w hat hb
    have hlen : l.length ≤ 671088 := by have := ndW_len l; omega
    have HDP := Pl.hid hdp
    clear hdp
    have IH := Pl.hid ih
    have HB := Pl.hid hb
    clear ih hb
    obtain ⟨p, cap, rfl, hv⟩ := hv
    go_enter Tryd.func18, Tryd.ntmps18
    rcases Nat.lt_or_ge at_ l.length with hlt | hge
    · rcases hv with h0 | ⟨b, o, rfl, hbl, hc⟩
      · omega
      have HC := Pl.hid hc
      have hge : ¬ l.length ≤ at_ := by omega
      clear hc
      go_wp2_with fail
      generalize hw1 : World.alloc w _ = w1
      have HS1 : Hid (w1.heap.size = w.heap.size + 1) := by show _ = _; rw [← hw1]; simp
      have HB1 : Hid (Below w.heap.size w w1) := by rw [← hw1]; exact (Below.refl _ _).alloc (Nat.le_refl _) _
      have HW1 : Hid (w1.heap[w.heap.size]? = some (.cells #[.int .i64 0, .string ⟨#[]⟩, .int .i64 0, .slice none 0 0] 31 (0, 0))) := by show _ = _; rw [← hw1]; exact heap_alloc_new w _
      clear hw1
      have HBW : Hid (Below W.heap.size W w1) := HB.out.trans (HB1.out.mono HB.out.size)
      obtain ⟨e0, e1, e2, e3⟩ := HC.out at_ hlt
      have f0 : w1.cell? ⟨b, o + at_ * 4, none⟩ = _ := (HBW.out.cell (p := ⟨b, o + at_ * 4, none⟩) hbl).trans e0
      have f1 : w1.cell? ⟨b, o + at_ * 4 + 1, none⟩ = _ := (HBW.out.cell (p := ⟨b, o + at_ * 4 + 1, none⟩) hbl).trans e1
      have f2 : w1.cell? ⟨b, o + at_ * 4 + 2, none⟩ = _ := (HBW.out.cell (p := ⟨b, o + at_ * 4 + 2, none⟩) hbl).trans e2
      have f3 : w1.cell? ⟨b, o + at_ * 4 + 3, none⟩ = _ := (HBW.out.cell (p := ⟨b, o + at_ * 4 + 3, none⟩) hbl).trans e3
      clear e0 e1 e2 e3
      have HBA : Hid (Below w1.heap.size w1 (w1.alloc (.cells #[.int .i64 0, .string ⟨#[]⟩, .int .i64 0, .slice none 0 0] 31))) := (Below.refl _ _).alloc (Nat.le_refl _) _
      have hbl1 : b < w1.heap.size := Nat.lt_of_lt_of_le hbl HBW.out.size
      have g0 := (HBA.out.cell (p := ⟨b, o + at_ * 4, none⟩) hbl1).trans f0
      have g1 := (HBA.out.cell (p := ⟨b, o + at_ * 4 + 1, none⟩) hbl1).trans f1
      have g2 := (HBA.out.cell (p := ⟨b, o + at_ * 4 + 2, none⟩) hbl1).trans f2
      go_region
      generalize hw2 : World.drew _ = w2
      obtain ⟨p, hp⟩ : ∃ p, p = w1.heap.size := ⟨_, rfl⟩
      obtain ⟨r, hr⟩ : ∃ r, r = w.heap.size := ⟨_, rfl⟩
      have HP2 : Hid (w2.heap[p]? = some (.cells #[.int .i64 (l[at_]'hlt).k, .string (l[at_]'hlt).s, .int .i64 (l[at_]'hlt).n, .slice none 0 0] 31 (0, 0))) := by show _ = _; rw [← hw2, hp]; exact heap_alloc_new w1 _
      have HB2 : Hid (Below w1.heap.size w1 w2) := by rw [← hw2]; exact ((Below.refl _ _).alloc (Nat.le_refl _) _).drew
      have HS2 : Hid (w2.heap.size = w1.heap.size + 1) := by show _ = _; rw [← hw2]; simp
      have HR2 : Hid (w2.heap[r]? = some (.cells #[.int .i64 0, .string ⟨#[]⟩, .int .i64 0, .slice none 0 0] 31 (0, 0))) := by
        rw [hr]
        exact (HB2.out.block _ (by rw [HS1.out]; exact Nat.lt_succ_self _)).trans HW1.out
      have g3 := (HB2.out.cell (p := ⟨b, o + at_ * 4 + 3, none⟩) hbl1).trans f3
      have HPR : Hid (r < p ∧ p < w2.heap.size ∧ w.heap.size = r) := ⟨by rw [hr, hp, HS1.out]; omega, by rw [hp, HS2.out]; omega, hr.symm⟩
      have HBw2 : Hid (Below w.heap.size w w2) := HB1.out.trans (HB2.out.mono HB1.out.size)
      rw [← hp, ← hr]
      clear hr hw2 hp f0 f1 f2 f3 g0 g1 g2 hbl1
      obtain ⟨N, hN⟩ : ∃ N, N = (l[at_]'hlt).c := ⟨_, rfl⟩
      rw [← hN] at g3
      clear hN
      go_wp2_with fail
      clear g3 hge
      obtain ⟨K, hK⟩ : ∃ K, K = (l[at_]'hlt).k := ⟨_, rfl⟩
      obtain ⟨S, hS⟩ : ∃ S, S = (l[at_]'hlt).s := ⟨_, rfl⟩
      obtain ⟨I, hI⟩ : ∃ I, I = (l[at_]'hlt).n := ⟨_, rfl⟩
      have HI64 : Hid (Pl.In64 I) := by rw [hI]; exact HII.out _ (List.getElem_mem hlt)
      have HWT : Hid (ndW (l.drop at_) = S.size + 25 + ndW (l.drop (at_ + 1))) := by show _ = _; rw [hS]; exact ndW_drop l at_ hlt
      rw [← hK, ← hS, ← hI] at HP2
      rw [← hK, ← hS, ← hI]
      clear hK hS hI
      obtain ⟨lo, hlo⟩ : ∃ lo, lo = w2.heap.size := ⟨_, rfl⟩
      have HLO := Pl.hid hlo
      clear hlo
      go_loopw [1, 10] (fun av kv wr => ∃ (i k : Nat) (ts : List RT) (lv : Value), av = .int .i64 i ∧ kv = .int .i64 k ∧ i ≤ l.length ∧ at_ + 1 ≤ i ∧ k ≤ i ∧
          Hid (wr.heap[p]? = some (.cells #[.int .i64 K, .string S, .int .i64 I, lv] 31 (0, 0))) ∧ Hid (wr.heap[r]? = some (.cells #[.int .i64 0, .string ⟨#[]⟩, .int .i64 0, .slice none 0 0] 31 (0, 0))) ∧
          Hid (Mm.OwnL wr lo lv ts) ∧ Hid (RT.szL ts + S.size + 25 + ndW (l.drop i) ≤ ndW (l.drop at_)) ∧ Hid (Below w.heap.size w wr ∧ lo ≤ wr.heap.size) ∧ Hid (∀ t ∈ ts, t.In)) (fun av _ _ => l.length - (intOf av).toNat)
      case atStart =>
        refine ⟨at_ + 1, 0, [], .slice none 0 0, by go_num, rfl, by omega, Nat.le_refl _, by omega, HP2, HR2, Mm.OwnL.nil _ _, ?_, ⟨HBw2.out, by rw [HLO.out]; exact Nat.le_refl _⟩, fun t ht => by cases ht⟩
        show _ ≤ _
        rw [HWT.out]
        simp [RT.szL]
      case round =>
        obtain ⟨i, k, ts, lv, rfl, rfl, hi, hai, hki, HP, HR, HO, HW, HBr, HIT⟩ := hrel
        have hdp : 0 ≤ dp ∧ dp ≤ 12 := by have := HDP.out; omega
        have e0 := Mm.cell_of HP.out (i := 0) rfl
        have e1 := Mm.cell_of HP.out (i := 1) rfl
        have e2 := Mm.cell_of HP.out (i := 2) rfl
        have e3 := Mm.cell_of HP.out (i := 3) rfl
        have HPLT : Hid (p < wr.heap.size ∧ r < wr.heap.size) := ⟨(Array.getElem?_eq_some_iff.1 HP.out).1, (Array.getElem?_eq_some_iff.1 HR.out).1⟩
        by_cases hcond : (k : Int) < N ∧ i < l.length ∧ dp < 12
        · obtain ⟨hk, hil, hdl⟩ := hcond
          clear e0 e1 e2 e3
          go_wp2_with fail
          generalize hw3 : World.alloc wr _ = w3
          obtain ⟨q, hq⟩ : ∃ q, q = wr.heap.size := ⟨_, rfl⟩
          rw [← hq]
          have HQ3 : Hid (w3.heap[q]? = some (.cells #[.int .i64 0, .string ⟨#[]⟩, .int .i64 0, .slice none 0 0] 31 (0, 0))) := by show _ = _; rw [← hw3, hq]; exact heap_alloc_new wr _
          have HB3 : Hid (Below wr.heap.size wr w3) := by rw [← hw3]; exact (Below.refl _ _).alloc (Nat.le_refl _) _
          have HS3 : Hid (w3.heap.size = wr.heap.size + 1) := by show _ = _; rw [← hw3]; simp
          have HQ : Hid (q = wr.heap.size) := hq
          clear hw3 hq
          refine (IH.out (g - 1) (by have := HDP.out; omega) (dp + 1) (by omega) (by have := HDP.out; omega) i w3 (by omega) (HB.out.trans ((HBr.out.1.trans (HB3.out.mono HBr.out.1.size)).mono HB.out.size))).mono ?_
          rintro e w4 ⟨t, c0, c1, c2, c3, j, rfl, hown, hb4, hij, hj, hwt, hsz, hin4⟩
          have HIN4 := Pl.hid hin4
          clear hin4
          have HT4 := Pl.hid hown
          have HB4 := Pl.hid hb4
          have HWT4 := Pl.hid (hwt hil)
          have hij' := (hwt hil).1
          clear hown hb4 hwt hsz
          have HQ4 : Hid (w4.heap[q]? = some (.cells #[.int .i64 0, .string ⟨#[]⟩, .int .i64 0, .slice none 0 0] 31 (0, 0))) := (HB4.out.block q (by rw [HS3.out, HQ.out]; exact Nat.lt_succ_self _)).trans HQ3.out
          have HP4 : Hid (w4.heap[p]? = some (.cells #[.int .i64 K, .string S, .int .i64 I, lv] 31 (0, 0))) :=
            ((HB4.out.block p (by rw [HS3.out]; have := HPLT.out.1; omega)).trans (HB3.out.block p HPLT.out.1)).trans HP.out
          have HR4 : Hid (w4.heap[r]? = some (.cells #[.int .i64 0, .string ⟨#[]⟩, .int .i64 0, .slice none 0 0] 31 (0, 0))) :=
            ((HB4.out.block r (by rw [HS3.out]; have := HPLT.out.2; omega)).trans (HB3.out.block r HPLT.out.2)).trans HR.out
          have HSZ : Hid (p < q ∧ r < q ∧ q + 1 = w3.heap.size ∧ w3.heap.size ≤ w4.heap.size ∧ q < w4.heap.size) := by
            have h1 := HPLT.out; have h2 := HQ.out; have h3 := HS3.out; have h4 := HB4.out.size
            exact ⟨by omega, by omega, by omega, h4, by omega⟩
          have HST5 : Hid (∀ w5 : World, w5.heap[q]? = some (.cells #[c0, c1, c2, c3] 31 (0, 0)) → w4.grownBy w5 (some q) → w5.heap[p]? = some (.cells #[.int .i64 K, .string S, .int .i64 I, lv] 31 (0, 0)) ∧
              w5.cell? ⟨p, 3, none⟩ = some lv ∧ w5.cell? ⟨q, 0, none⟩ = some c0 ∧ w5.cell? ⟨q, 1, none⟩ = some c1 ∧ w5.cell? ⟨q, 2, none⟩ = some c2 ∧ w5.cell? ⟨q, 3, none⟩ = some c3 ∧
              Hid (Mm.OwnT w5 wr.heap.size t [c0, c1, c2, c3]) ∧ Hid (Below wr.heap.size wr w5) ∧ Hid (w5.heap[r]? = some (.cells #[.int .i64 0, .string ⟨#[]⟩, .int .i64 0, .slice none 0 0] 31 (0, 0)))) := fun w5 hw5 hg5 => by
            have hz := HSZ.out
            have hq := HQ.out
            have hp5 := (hg5.block p (by omega) (by intro e; cases e; omega)).trans HP4.out
            exact ⟨hp5, Mm.cell_of hp5 (i := 3) rfl, Mm.cell_of hw5 (i := 0) rfl, Mm.cell_of hw5 (i := 1) rfl, Mm.cell_of hw5 (i := 2) rfl, Mm.cell_of hw5 (i := 3) rfl,
              ((HT4.out.keepLo (fun g hg hgl => hg5.block g hgl (by intro e; cases e; omega))).lo (by omega)),
              ((HB3.out.trans (HB4.out.mono (by omega))).grown hg5 (by omega) (fun k hk => by cases hk; omega)),
              (hg5.block r (by omega) (by intro e; cases e; omega)).trans HR4.out⟩
          have HPLO : Hid (p < lo ∧ r < lo ∧ lo ≤ wr.heap.size ∧ ts.length < 1073741824 ∧ w.heap.size = r ∧ w.heap.size < lo) := by
            have h1 := HPR.out; have h2 := HLO.out; have h3 := HBr.out.2; have h4 := HW.out; have h5 := RT.szL_len ts; have h6 := ndW_le l at_
            exact ⟨by omega, by omega, by omega, by omega, by omega, by omega⟩
          have HST6 : Hid (∀ (w5 w6 : World), w5.heap[p]? = some (.cells #[.int .i64 K, .string S, .int .i64 I, lv] 31 (0, 0)) → Below lo w5 w6 → w6.heap[p]? = some (.cells #[.int .i64 K, .string S, .int .i64 I, lv] 31 (0, 0))) := fun w5 w6 h5 hb =>
            (hb.block p HPLO.out.1).trans h5
          go_wp2_with (first
            | (refine Mm.wp_store4 _ rfl _ _ rfl q _ _ _ _ _ _ HQ4.out rfl rfl rfl HT4.out.one ?_; intro w5 hw5 hs5 hg5; obtain ⟨hp5, p3, q0, q1, q2, q3, HT5, HB5, HR5⟩ := HST5.out w5 hw5 hg5; clear hw5 hs5 hg5)
            | (at_builtin; refine Mm.wp_appR _ rfl _ _ (by rfl) wr w5 lo lv ts (by rfl) HO.out t [c0, c1, c2, c3] HT5.out (by rfl) (by rfl) HB5.out HPLO.out.2.2.2.1 HPLO.out.2.2.1 ?_; intro v6 w6 ho6 hb6; have HO6 := Pl.hid ho6; have HB6 := Pl.hid hb6; clear ho6 hb6; have hp6 := HST6.out w5 w6 hp5 HB6.out)
            | (refine Mm.wp_storeF _ rfl 29 _ _ (by rfl) Mm.Tryd.info_rl p 3 31 #[.int .i64 K, .string S, .int .i64 I, lv] v6 hp6 (by rfl) (by rfl) (Nat.lt_succ_self 3) HO6.out.one.2 HO6.out.one.1 ?_; intro w7 hw7 hs7 hg7; have HW7 := Pl.hid hw7; have HG7 := Pl.hid hg7; clear hw7 hs7 hg7))
          have hz := HSZ.out
          have hlo := HPLO.out
          have hw7 := HW7.out
          have hle := HWT4.out.2
          have hwq := HW.out
          have h5z := HB5.out.size
          have h6z := HB6.out.size
          have hpr := HPR.out
          refine ⟨⟨j, k + 1, ts ++ [t], v6, rfl, by go_num, hj, by omega, by omega, hw7, ?_, ?_, ?_, ?_, ?_⟩, by simp [intOf]; omega⟩
          · show _ = _
            rw [HG7.out.block r (by omega) (by intro e; cases e; omega), HB6.out.block r (by omega)]
            exact HR5.out
          · exact HO6.out.keepLo fun g hg hgl => HG7.out.block g hgl (by intro e; cases e; omega)
          · show _ ≤ _
            rw [RT.szL_snoc]
            omega
          · refine ⟨(HBr.out.1.trans (((HB5.out.mono (by omega)).trans (HB6.out.mono (by omega))))).grown HG7.out (by have := HBr.out.1.size; omega) (fun k hk => by cases hk; omega), ?_⟩
            have := HG7.out.size
            omega
          · intro t' ht'
            rcases List.mem_append.1 ht' with h | h
            · exact HIT.out t' h
            · rw [List.mem_singleton.1 h]; exact HIN4.out
        · have fin : ¬ (k : Int) < N ∨ ¬ i < l.length ∨ ¬ dp < 12 := by
            by_cases h : (k : Int) < N
            · by_cases h' : i < l.length
              · exact .inr (.inr fun h'' => hcond ⟨h, h', h''⟩)
              · exact .inr (.inl h')
            · exact .inl h
          clear hcond
          have key : ∀ wf : World, wf.heap[r]? = some (.cells #[.int .i64 K, .string S, .int .i64 I, lv] 31 (0, 0)) → wr.grownBy wf (some r) →
              Mm.OwnT wf w.heap.size (.mk K S I ts) [.int .i64 K, .string S, .int .i64 I, lv] ∧ Below w.heap.size w wf ∧ at_ ≤ i ∧ i ≤ l.length ∧ (at_ < l.length → at_ < i ∧ (RT.mk K S I ts).sz + ndW (l.drop i) ≤ ndW (l.drop at_)) ∧ (RT.mk K S I ts).sz ≤ ndW l + 25 ∧ (RT.mk K S I ts).In := by
            intro wf hwf hgf
            have hw := HW.out
            have hle := ndW_le l at_
            have hlo := HLO.out
            have hpr := HPR.out
            refine ⟨?_, HBr.out.1.grown hgf (by have := HBr.out.1.size; omega) (fun k hk => by cases hk; omega), by omega, hi, fun _ => ⟨by omega, ?_⟩, ?_, .mk _ _ _ _ HI64.out HIT.out⟩
            · refine (((HO.out.rep K S I).keepLo (fun g hg hgl => hgf.block g hgl ?_)).lo (by omega))
              intro e
              cases e
              omega
            · rw [RT.sz_mk]; omega
            · rw [RT.sz_mk]; omega
          have KEY := Pl.hid key
          clear key
          rcases fin with hk | hil | hdl <;>
          · go_wp2_with (refine Mm.wp_store4 _ rfl _ _ rfl r _ _ _ _ _ _ HR.out rfl rfl rfl (by intro u hu; simp only [List.mem_cons, List.mem_nil_iff, or_false] at hu; rcases hu with rfl | rfl | rfl | rfl <;> first | rfl | exact HO.out.one.1) ?_; intro wf hwf hsf hgf)
            all_goals
              have HF := Pl.hid (KEY.out wf hwf hgf)
              have HWF := Pl.hid hwf
              clear hwf hsf hgf
              (try simp only [Exit.inBlock, Exit.then])
              refine bodyPost_ret (Mm.res_cell_tmp rfl _ wf r _ _ _ _ _ _ rfl HWF.out) rfl ?_
              first
              | exact ⟨.mk K S I ts, _, _, _, _, i, rfl, HF.out⟩
              | exact ⟨.mk K S I ts, _, _, _, _, i, rfl, HF.out.1, HF.out.2.1, HF.out.2.2.1, HF.out.2.2.2.1, HF.out.2.2.2.2.1 hlt, HF.out.2.2.2.2.2.1, HF.out.2.2.2.2.2.2⟩
    · have hlt : ¬ at_ < l.length := by omega
      go_wp2_with (refine Mm.wp_store4 _ rfl _ _ rfl w.heap.size _ _ _ _ _ _ (heap_alloc_new w _) rfl rfl rfl (by intro u hu; simp only [List.mem_cons, List.mem_nil_iff, or_false] at hu; rcases hu with rfl | rfl | rfl | rfl <;> rfl) ?_; intro wf hwf hsf hgf)
      have HWF := Pl.hid hwf
      have HG := Pl.hid hgf
      clear hwf hsf hgf
      (try simp only [Exit.inBlock, Exit.then])
      refine bodyPost_ret (Mm.res_cell_tmp rfl _ wf w.heap.size _ _ _ _ _ _ rfl HWF.out) rfl ?_
      refine ⟨.mk 5 ⟨#[]⟩ 0 [], _, _, _, _, at_, rfl, (Mm.OwnL.nil wf w.heap.size).rep 5 ⟨#[]⟩ 0, ?_, Nat.le_refl _, hat, fun h => absurd h hlt, ?_, .mk _ _ _ _ (by unfold Pl.In64; omega) (fun t ht => by cases ht)⟩
      · exact ((Below.refl _ _).alloc (Nat.le_refl _) _).grown HG.out (by simp) (fun k hk => by cases hk; exact Nat.le_refl _)
      · rw [RT.sz_mk]
        have e0 : (⟨#[]⟩ : ByteArray).size = 0 := rfl
        have e1 : RT.szL [] = 0 := by simp [RT.szL]
        omega
end Go.Proofs.YtakldjdohgmeiaaDoor

namespace Go.Proofs.YtakldjdohgmeiaaDoor
open Go.RowKit
set_option maxRecDepth 20000

set_option maxHeartbeats 4000000 in
theorem twin_walk (W : World) : ∀ (t : RT), t.sz ≤ 1073741824 → ∀ (c0 c1 c2 c3 : Value), Mm.RepX W t [c0, c1, c2, c3] → ∀ w : World, Below W.heap.size W w →
    Calls Tryd.prog 19 #[.agg #[c0, c1, c2, c3]] w fun e w' => ∃ (d0 d1 d2 d3 : Value), e = .returned (.agg #[d0, d1, d2, d3]) ∧ Mm.OwnT w' w.heap.size t [d0, d1, d2, d3] ∧ Below w.heap.size w w' := by
  intro t
  induction t using RT.ind with
  | h k s n l ih =>
    intro hsz c0 c1 c2 c3 hx w hb
    obtain ⟨a, cap, hcs, hel⟩ := hx.open
    simp only [List.cons.injEq, and_true] at hcs
    obtain ⟨rfl, rfl, rfl, rfl⟩ := hcs
    rw [RT.sz_mk] at hsz
    have HL : Hid (l.length < 1073741824) := by have := RT.szL_len l; show _ < _; omega
    have HSZ := Pl.hid hsz
    have IH := Pl.hid ih
    have HB := Pl.hid hb
    have HEL := Pl.hid hel
    clear hb ih hel hx hsz
    go_enter Tryd.func19, Tryd.ntmps19
    go_wp2_with fail
    generalize hw3 : World.alloc _ _ = w3
    obtain ⟨p, hp⟩ : ∃ p, p = w.heap.size + 1 + 1 := ⟨_, rfl⟩
    obtain ⟨r, hr⟩ : ∃ r, r = w.heap.size + 1 := ⟨_, rfl⟩
    have HP3 : Hid (w3.heap[p]? = some (.cells #[.int .i64 k, .string s, .int .i64 n, .slice none 0 0] 31 (0, 0))) := by
      show _ = _
      rw [← hw3, hp]
      have := heap_alloc_new ((w.alloc (.cells #[.int .i64 k, .string s, .int .i64 n, .slice a l.length cap] 31)).alloc (.cells #[.int .i64 0, .string ⟨#[]⟩, .int .i64 0, .slice none 0 0] 31)) (.cells #[.int .i64 k, .string s, .int .i64 n, .slice none 0 0] 31)
      simpa using this
    have HR3 : Hid (w3.heap[r]? = some (.cells #[.int .i64 0, .string ⟨#[]⟩, .int .i64 0, .slice none 0 0] 31 (0, 0))) := by
      show _ = _
      rw [← hw3, hr, Below.heap_alloc _ _ _ (by simp)]
      have := heap_alloc_new (w.alloc (.cells #[.int .i64 k, .string s, .int .i64 n, .slice a l.length cap] 31)) (.cells #[.int .i64 0, .string ⟨#[]⟩, .int .i64 0, .slice none 0 0] 31)
      simpa using this
    have HB3 : Hid (Below w.heap.size w w3) := by rw [← hw3]; exact (((Below.refl _ _).alloc (Nat.le_refl _) _).alloc (by simp) _).alloc (by simp; omega) _
    have HS3 : Hid (w3.heap.size = w.heap.size + 3) := by show _ = _; rw [← hw3]; simp
    have HPR : Hid (p = w.heap.size + 2 ∧ r = w.heap.size + 1) := ⟨hp, hr⟩
    obtain ⟨lo, hlo⟩ : ∃ lo, lo = w3.heap.size := ⟨_, rfl⟩
    have HLO : Hid (lo = w.heap.size + 3 ∧ lo = w3.heap.size) := ⟨hlo.trans HS3.out, hlo⟩
    rw [← hp, ← hr]
    clear hw3 hp hr hlo
    go_loopw [11] (fun iv wr => ∃ (i : Nat) (lv : Value), iv = .int .i64 i ∧ i ≤ l.length ∧ Hid (wr.heap[p]? = some (.cells #[.int .i64 k, .string s, .int .i64 n, lv] 31 (0, 0))) ∧
        Hid (wr.heap[r]? = some (.cells #[.int .i64 0, .string ⟨#[]⟩, .int .i64 0, .slice none 0 0] 31 (0, 0))) ∧ Hid (Mm.OwnL wr lo lv (l.take i)) ∧ Hid (Below w.heap.size w wr ∧ lo ≤ wr.heap.size)) (fun iv _ => l.length - (intOf iv).toNat)
    case atStart => exact ⟨0, .slice none 0 0, rfl, Nat.zero_le _, HP3, HR3, Mm.OwnL.nil w3 lo, HB3.out, Nat.le_of_eq HLO.out.2⟩
    case round =>
      obtain ⟨i, lv, rfl, hi, HP, HR, HO, HBr⟩ := hrel
      have e0 := Mm.cell_of HP.out (i := 0) rfl
      have e1 := Mm.cell_of HP.out (i := 1) rfl
      have e2 := Mm.cell_of HP.out (i := 2) rfl
      have e3 := Mm.cell_of HP.out (i := 3) rfl
      rcases Nat.lt_or_ge i l.length with hlt | hge
      · rcases HEL.out with h0 | ⟨b, rfl, hbl, hel⟩
        · omega
        obtain ⟨f0, f1, f2, f3, h0, h1, h2, h3, hrep⟩ := hel i hlt
        have HBW : Hid (Below W.heap.size W wr) := HB.out.trans (HBr.out.1.mono HB.out.size)
        have g0 : wr.cell? ⟨b, i * 4, none⟩ = some f0 := (HBW.out.cell (p := ⟨b, i * 4, none⟩) hbl).trans h0
        have g1 : wr.cell? ⟨b, i * 4 + 1, none⟩ = some f1 := (HBW.out.cell (p := ⟨b, i * 4 + 1, none⟩) hbl).trans h1
        have g2 : wr.cell? ⟨b, i * 4 + 2, none⟩ = some f2 := (HBW.out.cell (p := ⟨b, i * 4 + 2, none⟩) hbl).trans h2
        have g3 : wr.cell? ⟨b, i * 4 + 3, none⟩ = some f3 := (HBW.out.cell (p := ⟨b, i * 4 + 3, none⟩) hbl).trans h3
        have HREP := Pl.hid hrep
        clear h0 h1 h2 h3 hrep hel
        obtain ⟨q, hq⟩ : ∃ q, q = wr.heap.size := ⟨_, rfl⟩
        have HQ := Pl.hid hq
        have HPLT : Hid (p < q ∧ r < q) := ⟨by rw [hq]; exact (Array.getElem?_eq_some_iff.1 HP.out).1, by rw [hq]; exact (Array.getElem?_eq_some_iff.1 HR.out).1⟩
        clear hq e0 e1 e2 e3
        go_wp2_with (refine Mm.wp_store4 _ rfl _ _ rfl wr.heap.size _ _ _ _ _ _ (heap_alloc_new wr _) rfl rfl rfl HREP.out.one ?_; intro w4 hw4 hs4 hg4; have HW4 := Pl.hid hw4; have HG4 := Pl.hid hg4; clear hw4 hs4 hg4)
        rw [HQ.out.symm] at HW4 HG4
        have hq := HQ.out
        have hplt := HPLT.out
        have hlo' := HLO.out
        have hbr := HBr.out.2
        have HPN : Hid (p ≠ q ∧ r ≠ q ∧ p < lo ∧ r < lo ∧ q < w4.heap.size ∧ wr.heap.size = q ∧ lo ≤ q) := by
          have hh := HPR.out
          have hz := HG4.out.size
          have hz' : (wr.alloc (.cells #[.int .i64 0, .string ⟨#[]⟩, .int .i64 0, .slice none 0 0] 31)).heap.size = wr.heap.size + 1 := by simp
          exact ⟨by omega, by omega, by omega, by omega, by omega, by omega, by omega⟩
        have HBw4 : Hid (Below wr.heap.size wr w4) := ((Below.refl _ _).alloc (Nat.le_refl _) _).grown HG4.out (by simp) (fun k hk => by cases hk; exact Nat.le_of_eq HQ.out.symm)
        have HP4 : Hid (w4.heap[p]? = some (.cells #[.int .i64 k, .string s, .int .i64 n, lv] 31 (0, 0))) := (HBw4.out.block p (by omega)).trans HP.out
        have HR4 : Hid (w4.heap[r]? = some (.cells #[.int .i64 0, .string ⟨#[]⟩, .int .i64 0, .slice none 0 0] 31 (0, 0))) := (HBw4.out.block r (by omega)).trans HR.out
        have HLN : Hid ((l.take i).length < 1073741824 ∧ (l[i]'hlt).sz ≤ 1073741824 ∧ l.take i ++ [l[i]'hlt] = l.take (i + 1)) :=
          ⟨by rw [List.length_take]; have := HL.out; omega, by have := RT.szL_mem (List.getElem_mem hlt); have := HSZ.out; omega, by rw [List.take_add_one, List.getElem?_eq_getElem hlt]; rfl⟩
        have ST5 : Hid (∀ (w5 : World) (d0 d1 d2 d3 : Value), Below w4.heap.size w4 w5 → Mm.OwnT w5 w4.heap.size (l[i]'hlt) [d0, d1, d2, d3] → w5.cell? ⟨p, 3, none⟩ = some lv ∧ (w5.alloc (.cells #[d0, d1, d2, d3] 31)).cell? ⟨p, 3, none⟩ = some lv ∧
            Hid (Mm.OwnT w5 wr.heap.size (l[i]'hlt) [d0, d1, d2, d3]) ∧ Hid (Below wr.heap.size wr w5) ∧ Hid (w5.heap[p]? = some (.cells #[.int .i64 k, .string s, .int .i64 n, lv] 31 (0, 0))) ∧ Hid (w5.heap[r]? = some (.cells #[.int .i64 0, .string ⟨#[]⟩, .int .i64 0, .slice none 0 0] 31 (0, 0)))) := fun w5 d0 d1 d2 d3 hb ho => by
          have hn := HPN.out
          have h5 := (hb.block p (by omega)).trans HP4.out
          have c5 := Mm.cell_of h5 (i := 3) (v := lv) rfl
          exact ⟨c5, (World.cell?_alloc_old _ _ _ (by have := World.block_lt_of_cell? _ _ c5; exact Nat.ne_of_lt this)).trans c5, ho.lo (by omega), HBw4.out.trans (hb.mono (by omega)), h5, (hb.block r (by omega)).trans HR4.out⟩
        have ST6 : Hid (∀ (w5 w6 : World), w5.heap[p]? = some (.cells #[.int .i64 k, .string s, .int .i64 n, lv] 31 (0, 0)) → Below lo w5 w6 → w6.cell? ⟨p, 3, none⟩ = some lv ∧ w6.frozen? ⟨p, 3, none⟩ = false) := fun w5 w6 h5 hb => by
          have h6 := (hb.block p HPN.out.2.2.1).trans h5
          exact ⟨Mm.cell_of h6 (i := 3) rfl, Mm.frozen_of h6⟩
        have HBW4 : Hid (Below W.heap.size W w4) := HBW.out.trans (HBw4.out.mono HBW.out.size)
        have p3 := Mm.cell_of HP4.out (i := 3) (v := lv) rfl
        have q0 := Mm.cell_of HW4.out (i := 0) rfl
        have q1 := Mm.cell_of HW4.out (i := 1) rfl
        have q2 := Mm.cell_of HW4.out (i := 2) rfl
        have q3 := Mm.cell_of HW4.out (i := 3) rfl
        rw [← hq]
        clear hq hplt hlo' hbr g0 g1 g2 g3
        go_region_law (first
          | (go_simp; go_at_call 19; (refine (IH.out _ (List.getElem_mem hlt) HLN.out.2.1 f0 f1 f2 f3 HREP.out _ (by first | exact HBW4.out | exact HBW4.out.drew)).mono ?_; rintro e w5 ⟨d0, d1, d2, d3, rfl, ho5, hb5⟩; obtain ⟨p5, p5a, HT5, HB5, HP5, HR5⟩ := ST5.out w5 d0 d1 d2 d3 (Mm.undrew hb5) ho5; clear ho5 hb5))
          | (refine Mm.step_appR _ (by rfl) _ _ (by rfl) wr w5 lo lv (l.take i) (by rfl) HO.out (l[i]'hlt) [d0, d1, d2, d3] HT5.out (by rfl) (by rfl) HB5.out HLN.out.1 HBr.out.2 ?_; intro v6 w6 ho6 hb6 _; obtain ⟨a6, k6, rfl⟩ := ho6.val; obtain ⟨p6, pf6⟩ := ST6.out w5 w6 HP5.out hb6; have HO6 := Pl.hid ho6; have HB6 := Pl.hid hb6; clear ho6 hb6))
        all_goals
          have HV : Hid ((l.take i ++ [l[i]'hlt]).length = min (i + 1) l.length) := by show _ = _; rw [HLN.out.2.2, List.length_take]
          have HO6' : Hid (Mm.OwnL w6 lo (.slice a6 (min (i + 1) l.length) k6) (l.take (i + 1))) := by
            have := HO6.out
            rw [HV.out, HLN.out.2.2] at this
            exact this
          have HP7 := Pl.hid (Mm.heap_set ((HB6.out.block p HPN.out.2.2.1).trans HP5.out) 3 (.slice a6 (min (i + 1) l.length) k6))
          have HG7 := Pl.hid (Mm.grown_set w6 p 3 (.slice a6 (min (i + 1) l.length) k6))
          generalize World.setCell w6 _ _ = w7 at HP7 HG7
          clear p6 pf6 p5 p5a p3 q0 q1 q2 q3 HO6
          have hlen := HL.out
          go_wp2_with fail
          have hn := HPN.out
          have h5z := HB5.out.size
          have h6z := HB6.out.size
          refine ⟨⟨i + 1, _, by go_num, hlt, HP7, ?_, ?_, ?_⟩, by simp [intOf]; omega⟩
          · show _ = _
            rw [HG7.out.block r (by omega) (by intro e; cases e; have := HPR.out; omega), HB6.out.block r (by omega)]
            exact HR5.out
          · exact HO6'.out.keepLo fun g hg hgl => HG7.out.block g hgl (by intro e; cases e; omega)
          · have hlo := HLO.out
            have hpr := HPR.out
            refine ⟨(HBr.out.1.trans (((HB5.out.mono (by omega)).trans (HB6.out.mono (by omega))))).grown HG7.out (by have := HBr.out.1.size; omega) (fun k hk => by cases hk; omega), ?_⟩
            have := HG7.out.size
            omega
      · have hie : i = l.length := by omega
        subst hie
        have HO' : Hid (Mm.OwnL wr lo lv l) := by have := HO.out; rw [List.take_length] at this; exact this
        go_wp2_with (refine Mm.wp_store4 _ rfl _ _ rfl r _ _ _ _ _ _ HR.out rfl rfl rfl (by intro u hu; simp only [List.mem_cons, List.mem_nil_iff, or_false] at hu; rcases hu with rfl | rfl | rfl | rfl <;> first | rfl | exact HO'.out.one.1) ?_; intro wf hwf hsf hgf)
        have HWF := Pl.hid hwf
        have HG := Pl.hid hgf
        clear hwf hsf hgf
        (try simp only [Exit.inBlock, Exit.then])
        refine bodyPost_ret (Mm.res_cell rfl _ wf r _ _ _ _ _ _ rfl HWF.out) rfl ?_
        have hlo := HLO.out
        have hpr := HPR.out
        have hbr := HBr.out.2
        refine ⟨_, _, _, _, rfl, ?_, HBr.out.1.grown HG.out (by omega) (fun k hk => by cases hk; omega)⟩
        refine ((HO'.out.rep k s n).keepLo (fun g hg hgl => HG.out.block g hgl ?_)).lo (by omega)
        intro e
        cases e
        omega
end Go.Proofs.YtakldjdohgmeiaaDoor

namespace Go.Proofs.YtakldjdohgmeiaaDoor
open Go.RowKit
set_option maxRecDepth 20000

namespace Mm
open Pl
/-- a block of one's own that was stored into -/
theorem newcell {w1 w2 : World} {o : Array Value} {T : TypeId} (hg : (w1.alloc (.cells o T)).grownBy w2 (some w1.heap.size)) : Below w1.heap.size w1 w2 :=
  ((Below.refl w1.heap.size w1).alloc (Nat.le_refl _) (.cells o T)).grown hg (by simp) (fun k hk => by injection hk with hk; omega)
theorem OwnB.range {w w' : World} {b : Nat} {v : Value} {l : List UInt8} (h : OwnB w b v l) (k : ∀ g, b ≤ g → g < w.heap.size → w'.heap[g]? = w.heap[g]?) : OwnB w' b v l :=
  h.keep fun g hg => k g (h.lt g hg).1 (h.lt g hg).2
theorem OwnB.sh {w : World} {b : Nat} {v : Value} {l : List UInt8} (h : OwnB w b v l) : ShR w b 5 1 v l.length := .of_own h
end Mm

set_option maxHeartbeats 4000000 in
theorem writes_walk (W : World) (v : Value) (l : List Nd) (hv : Mm.NodesV W v l) (hl : ndW l ≤ 5242880) (hI : ∀ nd ∈ l, Pl.In64 nd.n) (hT : Mm.Tab W) :
    Calls Tryd.prog 4 #[v] W fun e w' => e = .returned (.bool true) ∧ Below W.heap.size W w' := by
  have HTR := tree_walk W v l hv (by omega) hI 12 0 (Nat.le_refl _) rfl 0 W (Nat.zero_le _) (Below.refl _ _)
  have HT := Pl.hid hT
  have HTR := Pl.hid HTR
  have HLW := Pl.hid hl
  obtain ⟨va, vc, rfl, _⟩ := hv
  clear hT hI hl
  go_enter Tryd.func4, Tryd.ntmps4
  go_wp2_with fail
  refine HTR.out.mono ?_
  rintro e w1 ⟨t, c0, c1, c2, c3, j, rfl, ho1, hb1, _, _, _, hsz, hin⟩
  have hsz' : t.sz ≤ 1073741824 := by have := HLW.out; omega
  have HO1 := Pl.hid ho1
  have HB1 := Pl.hid hb1
  have HSZ := Pl.hid hsz'
  have HIN := Pl.hid hin
  have HEL := Pl.hid (RT.enc_le t hin hsz')
  clear ho1 hb1 hsz hsz' hin HTR
  obtain ⟨p3, hp3⟩ : ∃ p, p = w1.heap.size := ⟨_, rfl⟩
  have HP3 := Pl.hid hp3
  go_wp2_with (refine Mm.wp_store4 _ rfl _ _ rfl w1.heap.size _ _ _ _ _ _ (heap_alloc_new w1 _) rfl rfl rfl HO1.out.one ?_; intro w2 hw2 _ hg2; rw [← hp3] at hw2 ⊢; have HW2 := Pl.hid hw2; have HB2 := Pl.hid (Mm.newcell hg2); clear hw2 hg2 hp3; have k0 := Mm.cell_of HW2.out (i := 0) rfl; have k1 := Mm.cell_of HW2.out (i := 1) rfl; have k2 := Mm.cell_of HW2.out (i := 2) rfl; have k3 := Mm.cell_of HW2.out (i := 3) rfl)
  refine (twin_walk w1 t HSZ.out c0 c1 c2 c3 HO1.out.x w2 HB2.out).mono ?_
  rintro e w3 ⟨d0, d1, d2, d3, rfl, ho3, hb3⟩
  have HO3 := Pl.hid ho3
  have HB3 := Pl.hid hb3
  clear ho3 hb3 k0 k1 k2 k3
  obtain ⟨p5, hp5⟩ : ∃ p, p = w3.heap.size := ⟨_, rfl⟩
  have HP5 := Pl.hid hp5
  go_wp2_with (refine Mm.wp_store4 _ rfl _ _ rfl w3.heap.size _ _ _ _ _ _ (heap_alloc_new w3 _) rfl rfl rfl HO3.out.one ?_; intro w4 hw4 _ hg4; rw [← hp5] at hw4 ⊢; have HW4 := Pl.hid hw4; have HB4 := Pl.hid (Mm.newcell hg4); clear hw4 hg4 hp5; have k0 := Mm.cell_of HW4.out (i := 0) rfl; have k1 := Mm.cell_of HW4.out (i := 1) rfl; have k2 := Mm.cell_of HW4.out (i := 2) rfl; have k3 := Mm.cell_of HW4.out (i := 3) rfl)
  refine (rencode_walk w3 t HIN.out HSZ.out d0 d1 d2 d3 HO3.out.x w4 HB4.out).mono ?_
  rintro e w5 ⟨v5, rfl, ho5, hb5⟩
  have HO5 := Pl.hid ho5
  have HB5 := Pl.hid hb5
  clear ho5 hb5 k0 k1 k2 k3
  -- sizes grow
  have S12 := HB2.out.size
  have S23 := HB3.out.size
  have S34 := HB4.out.size
  have S45 := HB5.out.size
  have HP3L : Hid (p3 < w2.heap.size) := (Array.getElem?_eq_some_iff.1 HW2.out).1
  have HP5L : Hid (p5 < w4.heap.size) := (Array.getElem?_eq_some_iff.1 HW4.out).1
  have HB15 : Hid (Below w1.heap.size w1 w5) := HB2.out.trans ((HB3.out.trans ((HB4.out.trans (HB5.out.mono S34)).mono S23)).mono S12)
  have HW35 : Hid (w5.heap[p3]? = some (.cells #[c0, c1, c2, c3] 31 (0, 0))) :=
    ((HB5.out.block p3 (by have := HP3L.out; omega)).trans ((HB4.out.block p3 (by have := HP3L.out; omega)).trans (HB3.out.block p3 HP3L.out))).trans HW2.out
  have SZ := Pl.hid (show w1.heap.size ≤ w2.heap.size ∧ w2.heap.size ≤ w3.heap.size ∧ w3.heap.size ≤ w4.heap.size ∧ w4.heap.size ≤ w5.heap.size from ⟨S12, S23, S34, S45⟩)
  clear S12 S23 S34 S45
  have k0 := Mm.cell_of HW35.out (i := 0) rfl
  have k1 := Mm.cell_of HW35.out (i := 1) rfl
  have k2 := Mm.cell_of HW35.out (i := 2) rfl
  have k3 := Mm.cell_of HW35.out (i := 3) rfl
  go_wp2_with fail
  refine (encode_walk w1 (HT.out.on HB1.out) t HIN.out HSZ.out c0 c1 c2 c3 HO1.out.x w5 HB15.out).mono ?_
  rintro e w6 ⟨v6, rfl, ho6, hb6⟩
  have HO6 := Pl.hid ho6
  have HB6 := Pl.hid hb6
  clear ho6 hb6 k0 k1 k2 k3
  have HW36 : Hid (w6.heap[p3]? = some (.cells #[c0, c1, c2, c3] 31 (0, 0))) := (HB6.out.block p3 (by have := HP3L.out; have := SZ.out; omega)).trans HW35.out
  have k0 := Mm.cell_of HW36.out (i := 0) rfl
  have k1 := Mm.cell_of HW36.out (i := 1) rfl
  have k2 := Mm.cell_of HW36.out (i := 2) rfl
  have k3 := Mm.cell_of HW36.out (i := 3) rfl
  go_wp2_with fail
  refine (encode_walk w1 (HT.out.on HB1.out) t HIN.out HSZ.out c0 c1 c2 c3 HO1.out.x w6 (HB15.out.trans (HB6.out.mono HB15.out.size))).mono ?_
  rintro e w7 ⟨v7, rfl, ho7, hb7⟩
  have HO7 := Pl.hid ho7
  have HB7 := Pl.hid hb7
  clear ho7 hb7 k0 k1 k2 k3
  -- what stands at w7
  obtain ⟨b1, r1, n1, l1⟩ := HO1.out
  obtain ⟨b3, r3, n3, l3⟩ := HO3.out
  have HR1 := Pl.hid r1
  have HN1 := Pl.hid n1
  have HL1 := Pl.hid l1
  have HR3 := Pl.hid r3
  have HL3 := Pl.hid l3
  clear r1 n1 l1 r3 n3 l3
  have S67 : Hid (w5.heap.size ≤ w6.heap.size ∧ w6.heap.size ≤ w7.heap.size) := ⟨HB6.out.size, HB7.out.size⟩
  have E7 : Hid (∀ g, g < w5.heap.size → w7.heap[g]? = w5.heap[g]?) := fun g hg => (HB7.out.block g (by have := S67.out; omega)).trans (HB6.out.block g hg)
  have E5 : Hid (∀ g, g < w4.heap.size → w5.heap[g]? = w4.heap[g]?) := fun g hg => HB5.out.block g hg
  have HW57 : Hid (w7.heap[p5]? = some (.cells #[d0, d1, d2, d3] 31 (0, 0))) := (E7.out p5 (by have := HP5L.out; have := SZ.out; omega)).trans ((E5.out p5 HP5L.out).trans HW4.out)
  have HW37 : Hid (w7.heap[p3]? = some (.cells #[c0, c1, c2, c3] 31 (0, 0))) := (HB7.out.block p3 (by have := HP3L.out; have := SZ.out; have := S67.out; omega)).trans HW36.out
  have HX1 : Hid (Mm.RepB w7 t [c0, c1, c2, c3] b1) := HR1.out.keep fun g hg => by
    have h1 := HR1.out.lt g hg
    have h2 := SZ.out
    exact (E7.out g (by omega)).trans ((HB15.out.block g h1))
  have HX3 : Hid (Mm.RepB w7 t [d0, d1, d2, d3] b3) := HR3.out.keep fun g hg => by
    have h1 := HR3.out.lt g hg
    have h2 := SZ.out
    exact (E7.out g (by omega)).trans ((E5.out g (by omega)).trans (HB4.out.block g h1))
  have HV5 : Hid (Mm.OwnB w7 w4.heap.size v5 t.out) := HO5.out.range fun g _ h => E7.out g h
  have HV6 : Hid (Mm.OwnB w7 w5.heap.size v6 t.out) := HO6.out.range fun g _ h => HB7.out.block g h
  have HBW7 : Hid (Below W.heap.size W w7) := HB1.out.trans ((HB15.out.trans ((HB6.out.trans (HB7.out.mono HB6.out.size)).mono HB15.out.size)).mono HB1.out.size)
  have L5 := Pl.hid (fun g hg => HO5.out.lt g hg)
  have L6 := Pl.hid (fun g hg => HO6.out.lt g hg)
  have L7 := Pl.hid (fun g hg => HO7.out.lt g hg)
  have L1' : Hid (∀ g ∈ b1, W.heap.size ≤ g ∧ g < w1.heap.size) := fun g hg => ⟨HL1.out g hg, HR1.out.lt g hg⟩
  have L3' : Hid (∀ g ∈ b3, w2.heap.size ≤ g ∧ g < w3.heap.size) := fun g hg => ⟨HL3.out g hg, HR3.out.lt g hg⟩
  have SW : Hid (W.heap.size ≤ w1.heap.size) := HB1.out.size
  have HTW := Pl.hid (fun V (h : Below W.heap.size W V) => HT.out.on h)
  have HOL : Hid (t.out.length ≤ 9223372036854775807 ∧ t.out.length ≤ 1099511627776) := by
    have h1 : t.out.length ≤ t.enc.length := by
      unfold RT.out
      split
      · simp
      · split
        · simp
        · split <;> simp
    have := HEL.out
    have := HSZ.out
    constructor <;> omega
  clear HR1 HR3 HB2 HB3 HB4 HB5 HB6 E5 HW2 HW4 HW35 HW36 HO1 HO3 HO5 HO6 HL1 HL3 HB15 HB7 E7 HTR HT
  obtain ⟨K, hK⟩ : ∃ K, K = t.code := ⟨_, rfl⟩
  rw [← hK]
  clear hK
  have hkk : (K != K) = false := by simp
  go_wp2_with fail
  refine (same16_eq v6 v5 t.out w7 HOL.out.1 HV6.out.bytesR HV5.out.bytesR).mono ?_
  rintro e w8 ⟨rfl, hb8⟩
  have HB8 := Pl.hid hb8
  clear hb8
  go_wp2_with fail
  refine (same16_eq v7 v5 t.out w8 HOL.out.1 (HO7.out.bytesR.below HB8.out) (HV5.out.bytesR.below HB8.out)).mono ?_
  rintro e w9 ⟨rfl, hb9⟩
  have HB9 := Pl.hid (HB8.out.trans (hb9.mono HB8.out.size))
  clear hb9
  have HW59 : Hid (w9.heap[p5]? = some (.cells #[d0, d1, d2, d3] 31 (0, 0))) := (HB9.out.block p5 (Array.getElem?_eq_some_iff.1 HW57.out).1).trans HW57.out
  have HW39 : Hid (w9.heap[p3]? = some (.cells #[c0, c1, c2, c3] 31 (0, 0))) := (HB9.out.block p3 (Array.getElem?_eq_some_iff.1 HW37.out).1).trans HW37.out
  have k0 := Mm.cell_of HW39.out (i := 0) rfl
  have k1 := Mm.cell_of HW39.out (i := 1) rfl
  have k2 := Mm.cell_of HW39.out (i := 2) rfl
  have k3 := Mm.cell_of HW39.out (i := 3) rfl
  have j0 := Mm.cell_of HW59.out (i := 0) rfl
  have j1 := Mm.cell_of HW59.out (i := 1) rfl
  have j2 := Mm.cell_of HW59.out (i := 2) rfl
  have j3 := Mm.cell_of HW59.out (i := 3) rfl
  go_wp2_with fail
  refine (same_tree w7 t HSZ.out c0 c1 c2 c3 d0 d1 d2 d3 ⟨_, HX1.out⟩ ⟨_, HX3.out⟩ w9 HB9.out).mono ?_
  rintro e w10 ⟨rfl, hb10⟩
  have HB10 := Pl.hid (HB9.out.trans (hb10.mono HB9.out.size))
  clear hb10 k0 k1 k2 k3 j0 j1 j2 j3
  go_wp2_with fail
  have S7 : Hid (w7.heap.size ≤ w10.heap.size) := HB10.out.size
  have G10 : Hid (∀ g, g < w7.heap.size → w10.heap[g]? = w7.heap[g]?) := fun g hg => HB10.out.block g hg
  refine (spoil_walk w5.heap.size v6 _ w10 HOL.out.2 (HV6.out.range fun g _ h => G10.out g h).sh (by have := S67.out; have := S7.out; omega)).mono ?_
  rintro e w11 ⟨⟨u11, rfl⟩, hg11⟩
  have HG11 := Pl.hid hg11
  clear hg11
  have G11 : Hid (∀ g, g < w7.heap.size → (g < w5.heap.size ∨ w6.heap.size ≤ g) → w11.heap[g]? = w7.heap[g]?) := fun g hg h => (HG11.out.block g (by have := S7.out; omega) (fun e => by have := L6.out g e.symm; omega)).trans (G10.out g hg)
  go_wp2_with fail
  have V711 : Hid (Mm.OwnB w11 w6.heap.size v7 t.out) := HO7.out.range fun g h1 h2 => G11.out g h2 (.inr h1)
  have V511 : Hid (Mm.OwnB w11 w4.heap.size v5 t.out) := HV5.out.keep fun g hg => G11.out g (by have := (HV5.out.lt g hg).2; omega) (.inl (L5.out g hg).2)
  refine (same16_eq v7 v5 t.out w11 HOL.out.1 V711.out.bytesR V511.out.bytesR).mono ?_
  rintro e w12 ⟨rfl, hb12⟩
  have HB12 := Pl.hid hb12
  clear hb12
  have S11 : Hid (w10.heap.size ≤ w11.heap.size ∧ w11.heap.size ≤ w12.heap.size) := ⟨HG11.out.size, HB12.out.size⟩
  have G12 : Hid (∀ g, g < w7.heap.size → (g < w5.heap.size ∨ w6.heap.size ≤ g) → w12.heap[g]? = w7.heap[g]?) := fun g hg h => (HB12.out.block g (by have := S7.out; have := S11.out; omega)).trans (G11.out g hg h)
  go_wp2_with fail
  refine (spoil_walk w6.heap.size v7 _ w12 HOL.out.2 (HO7.out.range fun g h1 h2 => G12.out g h2 (.inr h1)).sh (by have := S67.out; have := S7.out; have := S11.out; omega)).mono ?_
  rintro e w13 ⟨⟨u13, rfl⟩, hg13⟩
  have HG13 := Pl.hid hg13
  clear hg13
  have S13 : Hid (w12.heap.size ≤ w13.heap.size) := HG13.out.size
  have G13 : Hid (∀ g, g < w5.heap.size → w13.heap[g]? = w7.heap[g]?) := fun g hg => (HG13.out.block g (by have := S7.out; have := S11.out; have := S67.out; omega) (fun e => by have := L7.out g e.symm; have := S67.out; omega)).trans (G12.out g (by have := S67.out; omega) (.inl hg))
  have HW313 : Hid (w13.heap[p3]? = some (.cells #[c0, c1, c2, c3] 31 (0, 0))) := (G13.out p3 (by have := HP3L.out; have := SZ.out; omega)).trans HW37.out
  have k0 := Mm.cell_of HW313.out (i := 0) rfl
  have k1 := Mm.cell_of HW313.out (i := 1) rfl
  have k2 := Mm.cell_of HW313.out (i := 2) rfl
  have k3 := Mm.cell_of HW313.out (i := 3) rfl
  go_wp2_with fail
  refine (spoilt_walk t HSZ.out c0 c1 c2 c3 b1 w13 (HX1.out.keep fun g hg => G13.out g (by have := (L1'.out g hg).2; have := SZ.out; omega)) HN1.out).mono ?_
  rintro e w14 ⟨⟨u14, rfl⟩, ht14⟩
  have HT14 := Pl.hid ht14
  clear ht14 k0 k1 k2 k3
  have G14 : Hid (∀ g, w1.heap.size ≤ g → g < w5.heap.size → w14.heap[g]? = w7.heap[g]?) := fun g h1 hg => (HT14.out.block g (by have := S7.out; have := S11.out; have := S67.out; have := S13.out; omega) (fun hm => by have := (L1'.out g hm).2; omega)).trans (G13.out g hg)
  have HBW14 : Hid (Below W.heap.size W w14) := by
    have s0 := HBW7.out.size
    have s1 := S67.out
    have s2 := S7.out
    have s3 := S11.out
    have s4 := S13.out
    have s5 := SZ.out
    have s6 := SW.out
    have b10 := HBW7.out.trans (HB10.out.mono s0)
    have b11 : Below W.heap.size W w11 := b10.grown HG11.out (by omega) (fun k hk => by have := L6.out k hk; omega)
    have b12 := b11.trans (HB12.out.mono b11.size)
    have b13 : Below W.heap.size W w13 := b12.grown HG13.out (by omega) (fun k hk => by have := L7.out k hk; omega)
    exact b13.trans (HT14.out.below b13.size fun g hg => (L1'.out g hg).1)
  have HW514 : Hid (w14.heap[p5]? = some (.cells #[d0, d1, d2, d3] 31 (0, 0))) := (G14.out p5 (by rw [HP5.out]; have := SZ.out; omega) (by have := HP5L.out; have := SZ.out; omega)).trans HW57.out
  have k0 := Mm.cell_of HW514.out (i := 0) rfl
  have k1 := Mm.cell_of HW514.out (i := 1) rfl
  have k2 := Mm.cell_of HW514.out (i := 2) rfl
  have k3 := Mm.cell_of HW514.out (i := 3) rfl
  go_wp2_with fail
  refine (encode_walk w14 (HTW.out _ HBW14.out) t HIN.out HSZ.out d0 d1 d2 d3 ⟨b3, HX3.out.keep fun g hg => G14.out g (by have := (L3'.out g hg).1; have := SZ.out; omega) (by have := (L3'.out g hg).2; have := SZ.out; omega)⟩ w14 (Below.refl _ _)).mono ?_
  rintro e w15 ⟨v15, rfl, ho15, hb15⟩
  have HO15 := Pl.hid ho15
  have HB15 := Pl.hid hb15
  clear ho15 hb15 k0 k1 k2 k3
  have V514 : Hid (Mm.OwnB w14 w4.heap.size v5 t.out) := HV5.out.keep fun g hg => G14.out g (by have := (L5.out g hg).1; have := SZ.out; omega) (L5.out g hg).2
  go_wp2_with fail
  refine (same16_eq v15 v5 t.out w15 HOL.out.1 HO15.out.bytesR (V514.out.bytesR.below HB15.out)).mono ?_
  rintro e w16 ⟨rfl, hb16⟩
  go_wp2_with fail
  go_ret
  exact ⟨rfl, HBW14.out.trans ((HB15.out.trans (hb16.mono HB15.out.size)).mono HBW14.out.size)⟩
end Go.Proofs.YtakldjdohgmeiaaDoor

namespace Go.Proofs.YtakldjdohgmeiaaDoor.Fr
open Go.ChangeShapes Go.WideShapes Go.ChangeAt Go.RowKit

section
variable {H : Type} {enc : TypeId × Value → H} {P : Program}

theorem trodAll_below (hl : laidOutB P = true) {W W' : World} (hb : Below W.heap.size W W') :
    ∀ {ts : List TypeId} {vs : List Value} {ds : List (DataW H)} {ps : List MemPlace}, (∀ t ∈ ts, P.readableRec t = true ∧ t < P.types.size) →
      DataW.TrodAll enc P W 0 (fun _ => true) true ts vs ds ps → DataW.TrodAll enc P W' 0 (fun b => decide (b < W.heap.size)) true ts vs ds ps
  | [], [], [], _, _, h => h
  | t :: ts, v :: vs, d :: ds, ps, hr, h => by
    obtain ⟨p, q, h1, h2, rfl⟩ := h
    have hlt : ∀ x ∈ p, x.block < W.heap.size := by
      obtain ⟨m, hm⟩ := h1
      exact DataW.trod_lt m _ _ _ hm
    exact ⟨p, q, Below.trod hl (hr t (by simp)).1 (hr t (by simp)).2 h1 hb hlt, trodAll_below hl hb (fun t' ht' => hr t' (by simp [ht'])) h2, rfl⟩
  | [], _ :: _, _, _, _, h => h.elim
  | [], [], _ :: _, _, _, h => h.elim
  | _ :: _, [], _, _, _, h => h.elim
  | _ :: _, _ :: _, [], _, _, h => h.elim

theorem trodAll_length {W : World} {base : Nat} {sp : Nat → Bool} {held : Bool} :
    ∀ {ts : List TypeId} {vs : List Value} {ds : List (DataW H)} {ps : List MemPlace}, DataW.TrodAll enc P W base sp held ts vs ds ps → ds.length = ts.length
  | [], [], [], _, _ => rfl
  | t :: ts, v :: vs, d :: ds, ps, h => by
    obtain ⟨p, q, _, h2, _⟩ := h
    simp [trodAll_length h2]
  | [], _ :: _, _, _, h => h.elim
  | [], [], _ :: _, _, h => h.elim
  | _ :: _, [], _, _, h => h.elim
  | _ :: _, _ :: _, [], _, h => h.elim

theorem post_true {f : Func} {s : ChangeSpec} {W W' : World} {args : Array Value} {ds gs : List (DataW H)} {before : List MemPlace} {tb : TypeId} (hl : laidOutB P = true)
    (hts : ∀ t ∈ f.params.toList, P.readableRec t = true ∧ t < P.types.size) (hvars : s.vars = []) (hW : DataW.Whole enc P f.params.toList s.vars false W args.toList ds gs before)
    (hb : Below W.heap.size W W') (hres : f.resultTypes = #[tb]) (hub : P.underlying tb = some .bool) (hfn : s.fn H (ds ++ gs) = { results := [.lit (.bool true)], args := ds }) :
    s.post enc P f false true false false W args (.bool true) W' := by
  have hW' := hW
  obtain ⟨p, q, h1, h2, rfl, hz, ha⟩ := hW
  rw [hvars] at h2
  obtain ⟨rfl, rfl⟩ := trodVars_none h2
  refine ⟨ds, [], p ++ [], [], p, [], hW', ?_, ?_, ?_, hb.frame _, fun h => by cases h⟩
  · rw [hfn, hres]
    exact trodAll_mk1 (shut_bool hub _)
  · rw [hfn]
    exact trodAll_below hl hb hts h1
  · rw [hfn, hvars]
    rfl
end

theorem str_size {a : ByteArray} (h : a.data.toList.length ≤ reachBytes) : a.size ≤ 140737488351232 := by
  rw [Array.length_toList] at h
  exact h

theorem lifted {H : Type} {enc : TypeId × Value → H} {C : Checked} {os : Os} {f : FuncId} {fn : Func} {s : OpenSpec} {F : Stop.Interp} {laid : List (String × DataW Unit)} {tb : TypeId}
    (own : ownKnob C.prog.godebug = none) (started : os.Started) (noInit : C.prog.inits.idxOf? f = none) (hfn : C.prog.funcs[f]? = some fn)
    (witness : ∃ (w : World) (tape : Tape) (i : Input), w.os = os ∧ (w.forCall tape i).Shaped C.prog ∧ i.vars = [] ∧ Input.okWide C.prog (w.forCall tape i) .any w.heap.size f i ∧
      s.preRow enc C.prog fn [] false laid (w.forCall tape i).memory i.args ∧ ({} : Assume).holds C.prog (lone (Frame.enter C.prog f i.args .normal) [] (w.forCall tape i)))
    (hl : laidOutB C.prog = true) (hts : (fn.params.toList.all fun t => C.prog.readableRec t && decide (t < C.prog.types.size)) = true) (hvars : s.vars = [])
    (hres : fn.resultTypes = #[tb]) (hub : C.prog.underlying tb = some .bool)
    (hspec : ∀ ds : List (DataW H), ds.length = fn.params.toList.length → (s.at F).fn H ds = { results := [.lit (.bool true)], args := ds })
    (walk : ∀ (W : World) (base : Nat) (args : Array Value) (ds : List (DataW H)) (before : List MemPlace),
      (∀ (j : Nat) t v, fn.params[j]? = some t → args[j]? = some v → Value.okWide C.prog W .any base t v) →
      DataW.TrodAll enc C.prog W 0 (fun _ => true) true fn.params.toList args.toList ds before → W.noneFrozen before →
      (∀ k, s.cond = some k → k H ds = true) →
      (DataW.weightsEach C.prog fn.params.toList ds).all (· ≤ reachBytes) = true →
      laidMetH C.prog laid W → W.ShapedOpen C.prog →
      Calls C.prog f args W fun e W' => e = .returned (.bool true) ∧ Below W.heap.size W W') :
    ReturnsInHanded {} C os f .any (s.preRow enc C.prog fn [] false laid) ((s.at F).post enc C.prog fn false true false false) := by
  have hts' : ∀ t ∈ fn.params.toList, C.prog.readableRec t = true ∧ t < C.prog.types.size := by
    intro t ht
    have := List.all_eq_true.1 hts t ht
    simpa using this
  refine returnsInHanded_of_row own started noInit hfn witness ?_
  intro W base args ds gs before hval hW _ hk hsz hL hsh _
  have hW0 := hW
  obtain ⟨p, q, h1, h2, rfl, hz, ha⟩ := hW
  rw [hvars] at h2
  obtain ⟨rfl, rfl⟩ := trodVars_none h2
  have hvt : s.bare.plain.varTypes C.prog = [] := by
    show s.vars.filterMap _ = []
    rw [hvars]
    rfl
  rw [hvt] at hsz
  simp only [List.append_nil] at hk hsz hz
  refine (walk W base args ds p hval h1 hz hk hsz hL hsh).mono fun e W' ⟨he, hb⟩ => ?_
  subst he
  refine ⟨_, rfl, ?_⟩
  exact post_true hl hts' hvars hW0 hb hres hub (by rw [List.append_nil]; exact hspec ds (trodAll_length h1))
end Go.Proofs.YtakldjdohgmeiaaDoor.Fr

namespace Go.Proofs.YtakldjdohgmeiaaDoor.Fr
open Go.ChangeShapes Go.WideShapes Go.ChangeAt Go.RowKit
set_option maxRecDepth 100000

theorem witness_shaped {H : Type} {enc : TypeId × Value → H} {C : Checked} {os : Os} {f : FuncId} {fn : Func} {s : OpenSpec} {conds : List PathCond} {apart : Bool} {laid : List (String × DataW Unit)} (w0 : World) (args : Array Value) (hos : w0.os = os)
    (hsh : (w0.forCall (fun _ _ => 0) ⟨#[], args, []⟩).Shaped C.prog)
    (hok : Input.okWideB C.prog (w0.forCall (fun _ _ => 0) ⟨#[], args, []⟩) f ⟨#[], args, []⟩ = true)
    (hrow : s.preRow enc C.prog fn conds apart laid (w0.forCall (fun _ _ => 0) ⟨#[], args, []⟩).memory args) :
    ∃ (w : World) (tape : Tape) (i : Input), w.os = os ∧ (w.forCall tape i).Shaped C.prog ∧ i.vars = [] ∧ Input.okWide C.prog (w.forCall tape i) .any w.heap.size f i ∧
      s.preRow enc C.prog fn conds apart laid (w.forCall tape i).memory i.args ∧ ({} : Assume).holds C.prog (lone (Frame.enter C.prog f i.args .normal) [] (w.forCall tape i)) :=
  ⟨w0, fun _ _ => 0, ⟨#[], args, []⟩, hos, hsh, (Input.okWide_of_okWideB (base := 0) hok).1, (Input.okWide_of_okWideB hok).2, hrow, by
    simp only [Assume.holds]
    exact ⟨by simp, by simp, fun _ => Modest.zero, by simp, by simp⟩⟩

theorem gPow : Tryd.prog.globalNamed "internal/strconv.uint64pow10" = some 9 := by kernel_rfl
theorem gPowType : (Tryd.prog.globals[9]?).map (·.type) = some 166 := by kernel_rfl
theorem cellsPow : Tryd.prog.cellsOf 166 = 20 := by kernel_rfl
theorem cellsU64 : Tryd.prog.cellsOf 141 = 1 := by kernel_rfl
/-- the table of powers, third on every list -/
theorem tab {W : World} {x y : String × DataW Unit} {rest : List (String × DataW Unit)} (h : laidMet Tryd.prog (x :: y :: ("internal/strconv.uint64pow10", Rows.laid_internal_strconv_uint64pow10) :: rest) W) : Mm.Tab W :=
  Mm.tab_of (Lib.tabIs_of_head (rest := rest) gPow gPowType Tryd.underlying166 Tryd.underlying141 cellsU64 cellsPow h.tail.tail)

theorem gRange : Tryd.prog.globalNamed "strconv.ErrRange" = some 11 := by kernel_rfl
theorem gRangeType : (Tryd.prog.globals[11]?).map (·.type) = some 53 := by kernel_rfl
theorem gSyntax : Tryd.prog.globalNamed "strconv.ErrSyntax" = some 10 := by kernel_rfl
theorem gSyntaxType : (Tryd.prog.globals[10]?).map (·.type) = some 53 := by kernel_rfl
theorem starErr : "*" ++ "errors.errorString" = "*errors.errorString" := by decide
theorem rowErr (u : TypeId) (h : Tryd.prog.typeName? 3 u = some "*errors.errorString") : u = 177 :=
  typeName_ptr_named (nm := "errors.errorString") (by rw [starErr]; kernel_rfl) (by kernel_rfl) (by decide) u (by rw [starErr]; exact h)
theorem cellsErr : Tryd.prog.cellsOf 179 = 1 := by kernel_rfl
theorem cellsStr : Tryd.prog.cellsOf 9 = 1 := by kernel_rfl
/-- the two errors of the library -/
theorem errs {W : World} {r r' : List (String × DataW Unit)} (h1 : laidMet Tryd.prog (("strconv.ErrRange", Rows.laid_strconv_ErrRange) :: r) W) (h2 : laidMet Tryd.prog (("strconv.ErrSyntax", Rows.laid_strconv_ErrSyntax) :: r') W) : Mm.Errs W := by
  obtain ⟨a1, s1, v1, _⟩ := laid_sentinel h1 gRange gRangeType Tryd.underlying53 rowErr Tryd.underlying177 Tryd.underlying179 rfl rfl Tryd.underlying9 cellsErr cellsStr
  obtain ⟨a2, s2, v2, _⟩ := laid_sentinel h2 gSyntax gSyntaxType Tryd.underlying53 rowErr Tryd.underlying177 Tryd.underlying179 rfl rfl Tryd.underlying9 cellsErr cellsStr
  exact Mm.errs_of ⟨_, _, v2⟩ ⟨_, _, v1⟩
end Go.Proofs.YtakldjdohgmeiaaDoor.Fr

namespace Go.Proofs.YtakldjdohgmeiaaDoor.Arg
open Go.ChangeShapes Go.WideShapes Go.ChangeAt Go.RowKit
open Mm Pl
set_option maxRecDepth 20000

theorem addM (b o n : Nat) : (⟨b, o, none⟩ : Addr).add n = ⟨b, o + n, none⟩ := by
  unfold Addr.add; split <;> simp_all
theorem cellsNode : Tryd.prog.cellsOf 83 = 4 := by kernel_rfl
theorem cellsInt : Tryd.prog.cellsOf 3 = 1 := by kernel_rfl
theorem cellsI64 : Tryd.prog.cellsOf 2 = 1 := by kernel_rfl
/-- one node -/
theorem node {H : Type} {enc : TypeId × Value → H} {W : World} {fuel : Nat} {cs : List Value} {x : DataW H × List MemPlace}
    (h : DataW.trod enc Tryd.prog W 0 (fun _ => true) true fuel 83 cs = some x) : ∃ nd : Nd, cs = [.int .i64 nd.k, .string nd.s, .int .i64 nd.n, .int .i64 nd.c] ∧ nd.s.size + 25 ≤ 5 * Rows.uptoBulk x.1 ∧ In64 nd.n := by
  obtain ⟨y0, y1, y2, y3, n, rfl, hl, h0, h1, h2, h3⟩ := Go.Joins.trod_struct4 Tryd.underlying83 h
  rw [cellsNode] at hl
  obtain ⟨c0, c1, c2, c3, rfl⟩ : ∃ c0 c1 c2 c3, cs = [c0, c1, c2, c3] := by
    match cs, hl with
    | [c0, c1, c2, c3], _ => exact ⟨c0, c1, c2, c3, rfl⟩
  simp only [cellsInt, Fr.cellsStr, cellsI64] at h0 h1 h2 h3
  obtain ⟨k, e0, f0, _⟩ := DataW.trod_int Tryd.underlying3 h0
  obtain ⟨s, e1, f1, _⟩ := DataW.trod_string Tryd.underlying9 h1
  obtain ⟨m, e2, f2, w2⟩ := DataW.trod_int Tryd.underlying2 h2
  obtain ⟨c, e3, f3, _⟩ := DataW.trod_int Tryd.underlying3 h3
  simp at e0 e1 e2 e3
  subst e0 e1 e2 e3
  refine ⟨⟨k, s, m, c⟩, rfl, ?_, bounds_i64 w2⟩
  rw [f0, f1, f2, f3]
  simp only [Rows.uptoBulk, Rows.uptoBulkAll, Array.length_toList]
  have : s.data.size = s.size := rfl
  omega
theorem ndW_bulk {H : Type} : ∀ (l : List Nd) (ds : List (DataW H)), l.length = ds.length → (∀ i (h1 : i < l.length) (h2 : i < ds.length), (l[i]'h1).s.size + 25 ≤ 5 * Rows.uptoBulk (ds[i]'h2)) → ndW l ≤ 5 * Rows.uptoBulkAll ds
  | [], _, _, _ => by simp [ndW]
  | x :: l, [], h, _ => by simp at h
  | x :: l, d :: ds, h, hb => by
    have h1 := hb 0 (by simp) (by simp)
    have h2 := ndW_bulk l ds (by simpa using h) fun i a b => hb (i + 1) (by simpa using a) (by simpa using b)
    simp only [List.getElem_cons_zero] at h1
    simp only [ndW, Rows.uptoBulkAll]
    omega
/-- nodes that came in -/
theorem nodes {H : Type} {enc : TypeId × Value → H} {W : World} {fuel : Nat} {v : Value} {x : DataW H × List MemPlace}
    (h : DataW.trod enc Tryd.prog W 0 (fun _ => true) true fuel 39 [v] = some x) : ∃ l : List Nd, NodesV W v l ∧ ndW l ≤ 5 * Rows.uptoBulk x.1 ∧ ∀ nd ∈ l, In64 nd.n := by
  rcases Go.Deep.open_slice Tryd.underlying39 h with ⟨e3, _⟩ | ⟨ad, len, cap, m, n, D, Pq, e3, _, hlc, hcap, hm, hxx, hx⟩
  · obtain rfl := List.cons.inj e3 |>.1
    exact ⟨[], ⟨none, 0, rfl, .inl rfl⟩, by simp [ndW], fun nd h => by cases h⟩
  · obtain rfl := List.cons.inj e3 |>.1
    have hlm : len ≤ m := by rw [hm]; split <;> omega
    rw [cellsNode] at hx
    have key : ∀ i, i < len → ∃ nd : Nd, (∀ j, j < 4 → W.cell? ((ad.add (i * 4)).add j) = [Value.int .i64 nd.k, .string nd.s, .int .i64 nd.n, .int .i64 nd.c][j]?) ∧ nd.s.size + 25 ≤ 5 * Rows.uptoBulk (D i) ∧ In64 nd.n := by
      intro i hi
      obtain ⟨cs, hc, hd⟩ := hx i (by omega)
      obtain ⟨nd, h1, h2, h3⟩ := node hd
      obtain ⟨_, _, h4⟩ := World.cells?_some hc
      rw [h1] at h4
      exact ⟨nd, h4, h2, h3⟩
    obtain ⟨F, hF⟩ : ∃ F : Nat → Nd, ∀ i, i < len → (∀ j, j < 4 → W.cell? ((ad.add (i * 4)).add j) = [Value.int .i64 (F i).k, .string (F i).s, .int .i64 (F i).n, .int .i64 (F i).c][j]?) ∧ (F i).s.size + 25 ≤ 5 * Rows.uptoBulk (D i) ∧ In64 (F i).n := by
      refine ⟨fun i => if h : i < len then Classical.choose (key i h) else ⟨0, ⟨#[]⟩, 0, 0⟩, fun i hi => ?_⟩
      have := Classical.choose_spec (key i hi)
      simp only [hi, dif_pos]
      exact this
    refine ⟨(List.range len).map F, ⟨some ad, cap, by simp, ?_⟩, ?_, fun nd hnd => ?_⟩
    · by_cases h0 : len = 0
      · exact .inl (by simp [h0])
      · right
        obtain ⟨ab, ao, sp⟩ := ad
        have hc0 := (hF 0 (by omega)).1 0 (by omega)
        have hsp := World.cell?_spot hc0
        simp only [Addr.add] at hsp
        have hsp' : sp = none := by
          revert hsp
          cases sp <;> simp [Addr.add]
        subst hsp'
        refine ⟨ab, ao, rfl, ?_, fun i hi => ?_⟩
        · have := World.block_lt_of_cell? _ _ hc0
          simpa [addM] using this
        · have hi' : i < len := by simpa using hi
          have hc := (hF i hi').1
          have g0 := hc 0 (by omega)
          have g1 := hc 1 (by omega)
          have g2 := hc 2 (by omega)
          have g3 := hc 3 (by omega)
          rw [addM, addM] at g0 g1 g2 g3
          simp only [List.getElem_map, List.getElem_range]
          exact ⟨by simpa using g0, by simpa using g1, by simpa using g2, by simpa using g3⟩
    · rw [hxx]
      simp only [Rows.uptoBulk]
      have := ndW_bulk ((List.range len).map F) ((List.range len).map D) (by simp) (fun i h1 h2 => by
        have hi' : i < len := by simpa using h1
        simp only [List.getElem_map, List.getElem_range]
        exact (hF i hi').2.1)
      omega
    · obtain ⟨i, hi, rfl⟩ := List.mem_map.1 hnd
      exact (hF i (by simpa using hi)).2.2
end Go.Proofs.YtakldjdohgmeiaaDoor.Arg
