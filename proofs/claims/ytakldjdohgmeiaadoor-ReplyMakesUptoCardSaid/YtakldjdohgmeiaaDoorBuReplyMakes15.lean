/- pantrylaw16.tree: some tree of bounded weight, in blocks of its own. Conditions: the list of nodes reads as it must, its weight is small. pantrylaw16.twin: the same reply, in blocks of its own. Condition: it reads, its weight is small. The list of a reply that is no variable. Conditions stand in the law. pantrylaw16.ReplyMakes: the law's walk. Conditions stand in each law. The frame of every law of this seat: if the walk returns true and turns nothing that was there, the law's statement follows. Conditions: what stands in 'lifted': the argument types can be read, one result, a bool. The frame of the laws whose rows list package-level variables: the witness's world, what the list gives. Conditions stand in each law. What an argument of the type []Node lies like in memory, and how great it is under the form's bound. Conditions stand in each law. Conditions stand in each law. -/
import Derived.Test.YtakldjdohgmeiaaDoorBuReplyMakes10
import Derived.BigRegion
import Derived.BigQuiet
import Derived.StillTailTactics
import Derived.Test.YtakldjdohgmeiaaDoorBuReplyMakes3
import Derived.Deep.RegionLaw
import Derived.Test.YtakldjdohgmeiaaDoorBuReplyMakes13
import Derived.Test.YtakldjdohgmeiaaDoorBuReplyMakes14
import Derived.Deep.CutRange
import Derived.Test.YtakldjdohgmeiaaDoorBuReplyMakes1
import Derived.Test.YtakldjdohgmeiaaDoorRows
import Derived.ProofKit
import Derived.OpenShut
import Derived.ChangeOld
import Derived.Below
import Derived.Deep.DeepHandedRow
import Derived.SizedLaws
import Derived.Test.YtakldjdohgmeiaaDoorBuReplyMakes5
import Derived.Test.YtakldjdohgmeiaaDoorCards
import Derived.Test.YtakldjdohgmeiaaDoorTie
import Derived.Lay
import Derived.MakeChecks
import Derived.Stop.LaidErr
import Derived.Deep.Slices
import Derived.Lib.SmallJoins
namespace Go.Proofs.YtakldjdohgmeiaaDoor
open Go.RowKit
set_option maxRecDepth 20000

/-- a node of the list -/
structure Nd where
  k : Int
  s : ByteArray
  n : Int
  c : Int
def ndW : List Nd → Nat
  | [] => 0
  | x :: l => x.s.size + 25 + ndW l
theorem ndW_drop (l : List Nd) (i : Nat) (h : i < l.length) : ndW (l.drop i) = (l[i]'h).s.size + 25 + ndW (l.drop (i + 1)) := by
  rw [List.drop_eq_getElem_cons h]
  rfl
theorem ndW_le : ∀ (l : List Nd) (i : Nat), ndW (l.drop i) ≤ ndW l
  | [], i => by simp [ndW]
  | x :: l, 0 => by simp
  | x :: l, i + 1 => by
    have := ndW_le l i
    simp only [List.drop_succ_cons, ndW]
    omega

theorem ndW_len : ∀ l : List Nd, 25 * l.length ≤ ndW l
  | [] => by simp [ndW]
  | x :: l => by
    have := ndW_len l
    simp only [ndW, List.length_cons]
    omega

namespace Mm
/-- a list of nodes that came in -/
def NodesV (w : World) (v : Value) (l : List Nd) : Prop :=
  ∃ p cap, v = .slice p l.length cap ∧ (l.length = 0 ∨ ∃ b o, p = some ⟨b, o, none⟩ ∧ b < w.heap.size ∧ ∀ i (hi : i < l.length),
    w.cell? ⟨b, o + i * 4, none⟩ = some (.int .i64 (l[i]'hi).k) ∧ w.cell? ⟨b, o + i * 4 + 1, none⟩ = some (.string (l[i]'hi).s) ∧ w.cell? ⟨b, o + i * 4 + 2, none⟩ = some (.int .i64 (l[i]'hi).n) ∧ w.cell? ⟨b, o + i * 4 + 3, none⟩ = some (.int .i64 (l[i]'hi).c))
end Mm

set_option maxHeartbeats 4000000 in
theorem tree_walk (W : World) (v : Value) (l : List Nd) (hv : Mm.NodesV W v l) (hl : ndW l ≤ 16777216) (hI : ∀ nd ∈ l, Pl.In64 nd.n) : ∀ (g : Nat) (dp : Int), g ≤ 12 → dp = 12 - (g : Int) → ∀ (at_ : Nat) (w : World), at_ ≤ l.length → Below W.heap.size W w →
    Calls Tryd.prog 18 #[v, .int .i64 at_, .int .i64 dp] w fun e w' => ∃ (t : RT) (c0 c1 c2 c3 : Value) (j : Nat), e = .returned (.tuple #[.agg #[c0, c1, c2, c3], .int .i64 j]) ∧ Mm.OwnT w' w.heap.size t [c0, c1, c2, c3] ∧
      Below w.heap.size w w' ∧ at_ ≤ j ∧ j ≤ l.length ∧ (at_ < l.length → at_ < j ∧ t.sz + ndW (l.drop j) ≤ ndW (l.drop at_)) ∧ t.sz ≤ ndW l + 25 ∧ t.In := by
  have HII := Pl.hid hI
  clear hI
  intro g
  induction g using Nat.strongRecOn with
  | _ g ih =>
    intro dp hg hdp at_ w hat hb
    have hlen : l.length ≤ 671088 := by have := ndW_len l; omega
    have HDP := Pl.hid hdp
    clear hdp
    have IH := Pl.hid ih
    have HB := Pl.hid hb
    clear ih hb
    obtain ⟨p, cap, rfl, hv⟩ := hv
    go_enter Tryd.func18, Tryd.ntmps18
    rcases Nat.lt_or_ge at_ l.length with hlt | hge
    · rcases hv with h0 | ⟨b, o, rfl, hbl, hc⟩
      · omega
      have HC := Pl.hid hc
      have hge : ¬ l.length ≤ at_ := by omega
      clear hc
      go_wp2_with fail
      generalize hw1 : World.alloc w _ = w1
      have HS1 : Hid (w1.heap.size = w.heap.size + 1) := by show _ = _; rw [← hw1]; simp
      have HB1 : Hid (Below w.heap.size w w1) := by rw [← hw1]; exact (Below.refl _ _).alloc (Nat.le_refl _) _
      have HW1 : Hid (w1.heap[w.heap.size]? = some (.cells #[.int .i64 0, .string ⟨#[]⟩, .int .i64 0, .slice none 0 0] 31 (0, 0))) := by show _ = _; rw [← hw1]; exact heap_alloc_new w _
      clear hw1
      have HBW : Hid (Below W.heap.size W w1) := HB.out.trans (HB1.out.mono HB.out.size)
      obtain ⟨e0, e1, e2, e3⟩ := HC.out at_ hlt
      have f0 : w1.cell? ⟨b, o + at_ * 4, none⟩ = _ := (HBW.out.cell (p := ⟨b, o + at_ * 4, none⟩) hbl).trans e0
      have f1 : w1.cell? ⟨b, o + at_ * 4 + 1, none⟩ = _ := (HBW.out.cell (p := ⟨b, o + at_ * 4 + 1, none⟩) hbl).trans e1
      have f2 : w1.cell? ⟨b, o + at_ * 4 + 2, none⟩ = _ := (HBW.out.cell (p := ⟨b, o + at_ * 4 + 2, none⟩) hbl).trans e2
      have f3 : w1.cell? ⟨b, o + at_ * 4 + 3, none⟩ = _ := (HBW.out.cell (p := ⟨b, o + at_ * 4 + 3, none⟩) hbl).trans e3
      clear e0 e1 e2 e3
      have HBA : Hid (Below w1.heap.size w1 (w1.alloc (.cells #[.int .i64 0, .string ⟨#[]⟩, .int .i64 0, .slice none 0 0] 31))) := (Below.refl _ _).alloc (Nat.le_refl _) _
      have hbl1 : b < w1.heap.size := Nat.lt_of_lt_of_le hbl HBW.out.size
      have g0 := (HBA.out.cell (p := ⟨b, o + at_ * 4, none⟩) hbl1).trans f0
      have g1 := (HBA.out.cell (p := ⟨b, o + at_ * 4 + 1, none⟩) hbl1).trans f1
      have g2 := (HBA.out.cell (p := ⟨b, o + at_ * 4 + 2, none⟩) hbl1).trans f2
      go_region
      generalize hw2 : World.drew _ = w2
      obtain ⟨p, hp⟩ : ∃ p, p = w1.heap.size := ⟨_, rfl⟩
      obtain ⟨r, hr⟩ : ∃ r, r = w.heap.size := ⟨_, rfl⟩
      have HP2 : Hid (w2.heap[p]? = some (.cells #[.int .i64 (l[at_]'hlt).k, .string (l[at_]'hlt).s, .int .i64 (l[at_]'hlt).n, .slice none 0 0] 31 (0, 0))) := by show _ = _; rw [← hw2, hp]; exact heap_alloc_new w1 _
      have HB2 : Hid (Below w1.heap.size w1 w2) := by rw [← hw2]; exact ((Below.refl _ _).alloc (Nat.le_refl _) _).drew
      have HS2 : Hid (w2.heap.size = w1.heap.size + 1) := by show _ = _; rw [← hw2]; simp
      have HR2 : Hid (w2.heap[r]? = some (.cells #[.int .i64 0, .string ⟨#[]⟩, .int .i64 0, .slice none 0 0] 31 (0, 0))) := by
        rw [hr]
        exact (HB2.out.block _ (by rw [HS1.out]; exact Nat.lt_succ_self _)).trans HW1.out
      have g3 := (HB2.out.cell (p := ⟨b, o + at_ * 4 + 3, none⟩) hbl1).trans f3
      have HPR : Hid (r < p ∧ p < w2.heap.size ∧ w.heap.size = r) := ⟨by rw [hr, hp, HS1.out]; omega, by rw [hp, HS2.out]; omega, hr.symm⟩
      have HBw2 : Hid (Below w.heap.size w w2) := HB1.out.trans (HB2.out.mono HB1.out.size)
      rw [← hp, ← hr]
      clear hr hw2 hp f0 f1 f2 f3 g0 g1 g2 hbl1
      obtain ⟨N, hN⟩ : ∃ N, N = (l[at_]'hlt).c := ⟨_, rfl⟩
      rw [← hN] at g3
      clear hN
      go_wp2_with fail
      clear g3 hge
      obtain ⟨K, hK⟩ : ∃ K, K = (l[at_]'hlt).k := ⟨_, rfl⟩
      obtain ⟨S, hS⟩ : ∃ S, S = (l[at_]'hlt).s := ⟨_, rfl⟩
      obtain ⟨I, hI⟩ : ∃ I, I = (l[at_]'hlt).n := ⟨_, rfl⟩
      have HI64 : Hid (Pl.In64 I) := by rw [hI]; exact HII.out _ (List.getElem_mem hlt)
      have HWT : Hid (ndW (l.drop at_) = S.size + 25 + ndW (l.drop (at_ + 1))) := by show _ = _; rw [hS]; exact ndW_drop l at_ hlt
      rw [← hK, ← hS, ← hI] at HP2
      rw [← hK, ← hS, ← hI]
      clear hK hS hI
      obtain ⟨lo, hlo⟩ : ∃ lo, lo = w2.heap.size := ⟨_, rfl⟩
      have HLO := Pl.hid hlo
      clear hlo
      go_loopw [1, 10] (fun av kv wr => ∃ (i k : Nat) (ts : List RT) (lv : Value), av = .int .i64 i ∧ kv = .int .i64 k ∧ i ≤ l.length ∧ at_ + 1 ≤ i ∧ k ≤ i ∧
          Hid (wr.heap[p]? = some (.cells #[.int .i64 K, .string S, .int .i64 I, lv] 31 (0, 0))) ∧ Hid (wr.heap[r]? = some (.cells #[.int .i64 0, .string ⟨#[]⟩, .int .i64 0, .slice none 0 0] 31 (0, 0))) ∧
          Hid (Mm.OwnL wr lo lv ts) ∧ Hid (RT.szL ts + S.size + 25 + ndW (l.drop i) ≤ ndW (l.drop at_)) ∧ Hid (Below w.heap.size w wr ∧ lo ≤ wr.heap.size) ∧ Hid (∀ t ∈ ts, t.In)) (fun av _ _ => l.length - (intOf av).toNat)
      case atStart =>
        refine ⟨at_ + 1, 0, [], .slice none 0 0, by go_num, rfl, by omega, Nat.le_refl _, by omega, HP2, HR2, Mm.OwnL.nil _ _, ?_, ⟨HBw2.out, by rw [HLO.out]; exact Nat.le_refl _⟩, fun t ht => by cases ht⟩
        show _ ≤ _
        rw [HWT.out]
        simp [RT.szL]
      case round =>
        obtain ⟨i, k, ts, lv, rfl, rfl, hi, hai, hki, HP, HR, HO, HW, HBr, HIT⟩ := hrel
        have hdp : 0 ≤ dp ∧ dp ≤ 12 := by have := HDP.out; omega
        have e0 := Mm.cell_of HP.out (i := 0) rfl
        have e1 := Mm.cell_of HP.out (i := 1) rfl
        have e2 := Mm.cell_of HP.out (i := 2) rfl
        have e3 := Mm.cell_of HP.out (i := 3) rfl
        have HPLT : Hid (p < wr.heap.size ∧ r < wr.heap.size) := ⟨(Array.getElem?_eq_some_iff.1 HP.out).1, (Array.getElem?_eq_some_iff.1 HR.out).1⟩
        by_cases hcond : (k : Int) < N ∧ i < l.length ∧ dp < 12
        · obtain ⟨hk, hil, hdl⟩ := hcond
          clear e0 e1 e2 e3
          go_wp2_with fail
          generalize hw3 : World.alloc wr _ = w3
          obtain ⟨q, hq⟩ : ∃ q, q = wr.heap.size := ⟨_, rfl⟩
          rw [← hq]
          have HQ3 : Hid (w3.heap[q]? = some (.cells #[.int .i64 0, .string ⟨#[]⟩, .int .i64 0, .slice none 0 0] 31 (0, 0))) := by show _ = _; rw [← hw3, hq]; exact heap_alloc_new wr _
          have HB3 : Hid (Below wr.heap.size wr w3) := by rw [← hw3]; exact (Below.refl _ _).alloc (Nat.le_refl _) _
          have HS3 : Hid (w3.heap.size = wr.heap.size + 1) := by show _ = _; rw [← hw3]; simp
          have HQ : Hid (q = wr.heap.size) := hq
          clear hw3 hq
          refine (IH.out (g - 1) (by have := HDP.out; omega) (dp + 1) (by omega) (by have := HDP.out; omega) i w3 (by omega) (HB.out.trans ((HBr.out.1.trans (HB3.out.mono HBr.out.1.size)).mono HB.out.size))).mono ?_
          rintro e w4 ⟨t, c0, c1, c2, c3, j, rfl, hown, hb4, hij, hj, hwt, hsz, hin4⟩
          have HIN4 := Pl.hid hin4
          clear hin4
          have HT4 := Pl.hid hown
          have HB4 := Pl.hid hb4
          have HWT4 := Pl.hid (hwt hil)
          have hij' := (hwt hil).1
          clear hown hb4 hwt hsz
          have HQ4 : Hid (w4.heap[q]? = some (.cells #[.int .i64 0, .string ⟨#[]⟩, .int .i64 0, .slice none 0 0] 31 (0, 0))) := (HB4.out.block q (by rw [HS3.out, HQ.out]; exact Nat.lt_succ_self _)).trans HQ3.out
          have HP4 : Hid (w4.heap[p]? = some (.cells #[.int .i64 K, .string S, .int .i64 I, lv] 31 (0, 0))) :=
            ((HB4.out.block p (by rw [HS3.out]; have := HPLT.out.1; omega)).trans (HB3.out.block p HPLT.out.1)).trans HP.out
          have HR4 : Hid (w4.heap[r]? = some (.cells #[.int .i64 0, .string ⟨#[]⟩, .int .i64 0, .slice none 0 0] 31 (0, 0))) :=
            ((HB4.out.block r (by rw [HS3.out]; have := HPLT.out.2; omega)).trans (HB3.out.block r HPLT.out.2)).trans HR.out
          have HSZ : Hid (p < q ∧ r < q ∧ q + 1 = w3.heap.size ∧ w3.heap.size ≤ w4.heap.size ∧ q < w4.heap.size) := by
            have h1 := HPLT.out; have h2 := HQ.out; have h3 := HS3.out; have h4 := HB4.out.size
            exact ⟨by omega, by omega, by omega, h4, by omega⟩
          have HST5 : Hid (∀ w5 : World, w5.heap[q]? = some (.cells #[c0, c1, c2, c3] 31 (0, 0)) → w4.grownBy w5 (some q) → w5.heap[p]? = some (.cells #[.int .i64 K, .string S, .int .i64 I, lv] 31 (0, 0)) ∧
              w5.cell? ⟨p, 3, none⟩ = some lv ∧ w5.cell? ⟨q, 0, none⟩ = some c0 ∧ w5.cell? ⟨q, 1, none⟩ = some c1 ∧ w5.cell? ⟨q, 2, none⟩ = some c2 ∧ w5.cell? ⟨q, 3, none⟩ = some c3 ∧
              Hid (Mm.OwnT w5 wr.heap.size t [c0, c1, c2, c3]) ∧ Hid (Below wr.heap.size wr w5) ∧ Hid (w5.heap[r]? = some (.cells #[.int .i64 0, .string ⟨#[]⟩, .int .i64 0, .slice none 0 0] 31 (0, 0)))) := fun w5 hw5 hg5 => by
            have hz := HSZ.out
            have hq := HQ.out
            have hp5 := (hg5.block p (by omega) (by intro e; cases e; omega)).trans HP4.out
            exact ⟨hp5, Mm.cell_of hp5 (i := 3) rfl, Mm.cell_of hw5 (i := 0) rfl, Mm.cell_of hw5 (i := 1) rfl, Mm.cell_of hw5 (i := 2) rfl, Mm.cell_of hw5 (i := 3) rfl,
              ((HT4.out.keepLo (fun g hg hgl => hg5.block g hgl (by intro e; cases e; omega))).lo (by omega)),
              ((HB3.out.trans (HB4.out.mono (by omega))).grown hg5 (by omega) (fun k hk => by cases hk; omega)),
              (hg5.block r (by omega) (by intro e; cases e; omega)).trans HR4.out⟩
          have HPLO : Hid (p < lo ∧ r < lo ∧ lo ≤ wr.heap.size ∧ ts.length < 1073741824 ∧ w.heap.size = r ∧ w.heap.size < lo) := by
            have h1 := HPR.out; have h2 := HLO.out; have h3 := HBr.out.2; have h4 := HW.out; have h5 := RT.szL_len ts; have h6 := ndW_le l at_
            exact ⟨by omega, by omega, by omega, by omega, by omega, by omega⟩
          have HST6 : Hid (∀ (w5 w6 : World), w5.heap[p]? = some (.cells #[.int .i64 K, .string S, .int .i64 I, lv] 31 (0, 0)) → Below lo w5 w6 → w6.heap[p]? = some (.cells #[.int .i64 K, .string S, .int .i64 I, lv] 31 (0, 0))) := fun w5 w6 h5 hb =>
            (hb.block p HPLO.out.1).trans h5
          go_wp2_with (first
            | (refine Mm.wp_store4 _ rfl _ _ rfl q _ _ _ _ _ _ HQ4.out rfl rfl rfl HT4.out.one ?_; intro w5 hw5 hs5 hg5; obtain ⟨hp5, p3, q0, q1, q2, q3, HT5, HB5, HR5⟩ := HST5.out w5 hw5 hg5; clear hw5 hs5 hg5)
            | (at_builtin; refine Mm.wp_appR _ rfl _ _ (by rfl) wr w5 lo lv ts (by rfl) HO.out t [c0, c1, c2, c3] HT5.out (by rfl) (by rfl) HB5.out HPLO.out.2.2.2.1 HPLO.out.2.2.1 ?_; intro v6 w6 ho6 hb6; have HO6 := Pl.hid ho6; have HB6 := Pl.hid hb6; clear ho6 hb6; have hp6 := HST6.out w5 w6 hp5 HB6.out)
            | (refine Mm.wp_storeF _ rfl 29 _ _ (by rfl) Mm.Tryd.info_rl p 3 31 #[.int .i64 K, .string S, .int .i64 I, lv] v6 hp6 (by rfl) (by rfl) (Nat.lt_succ_self 3) HO6.out.one.2 HO6.out.one.1 ?_; intro w7 hw7 hs7 hg7; have HW7 := Pl.hid hw7; have HG7 := Pl.hid hg7; clear hw7 hs7 hg7))
          have hz := HSZ.out
          have hlo := HPLO.out
          have hw7 := HW7.out
          have hle := HWT4.out.2
          have hwq := HW.out
          have h5z := HB5.out.size
          have h6z := HB6.out.size
          have hpr := HPR.out
          refine ⟨⟨j, k + 1, ts ++ [t], v6, rfl, by go_num, hj, by omega, by omega, hw7, ?_, ?_, ?_, ?_, ?_⟩, by simp [intOf]; omega⟩
          · show _ = _
            rw [HG7.out.block r (by omega) (by intro e; cases e; omega), HB6.out.block r (by omega)]
            exact HR5.out
          · exact HO6.out.keepLo fun g hg hgl => HG7.out.block g hgl (by intro e; cases e; omega)
          · show _ ≤ _
            rw [RT.szL_snoc]
            omega
          · refine ⟨(HBr.out.1.trans (((HB5.out.mono (by omega)).trans (HB6.out.mono (by omega))))).grown HG7.out (by have := HBr.out.1.size; omega) (fun k hk => by cases hk; omega), ?_⟩
            have := HG7.out.size
            omega
          · intro t' ht'
            rcases List.mem_append.1 ht' with h | h
            · exact HIT.out t' h
            · rw [List.mem_singleton.1 h]; exact HIN4.out
        · have fin : ¬ (k : Int) < N ∨ ¬ i < l.length ∨ ¬ dp < 12 := by
            by_cases h : (k : Int) < N
            · by_cases h' : i < l.length
              · exact .inr (.inr fun h'' => hcond ⟨h, h', h''⟩)
              · exact .inr (.inl h')
            · exact .inl h
          clear hcond
          have key : ∀ wf : World, wf.heap[r]? = some (.cells #[.int .i64 K, .string S, .int .i64 I, lv] 31 (0, 0)) → wr.grownBy wf (some r) →
              Mm.OwnT wf w.heap.size (.mk K S I ts) [.int .i64 K, .string S, .int .i64 I, lv] ∧ Below w.heap.size w wf ∧ at_ ≤ i ∧ i ≤ l.length ∧ (at_ < l.length → at_ < i ∧ (RT.mk K S I ts).sz + ndW (l.drop i) ≤ ndW (l.drop at_)) ∧ (RT.mk K S I ts).sz ≤ ndW l + 25 ∧ (RT.mk K S I ts).In := by
            intro wf hwf hgf
            have hw := HW.out
            have hle := ndW_le l at_
            have hlo := HLO.out
            have hpr := HPR.out
            refine ⟨?_, HBr.out.1.grown hgf (by have := HBr.out.1.size; omega) (fun k hk => by cases hk; omega), by omega, hi, fun _ => ⟨by omega, ?_⟩, ?_, .mk _ _ _ _ HI64.out HIT.out⟩
            · refine (((HO.out.rep K S I).keepLo (fun g hg hgl => hgf.block g hgl ?_)).lo (by omega))
              intro e
              cases e
              omega
            · rw [RT.sz_mk]; omega
            · rw [RT.sz_mk]; omega
          have KEY := Pl.hid key
          clear key
          rcases fin with hk | hil | hdl <;>
          · go_wp2_with (refine Mm.wp_store4 _ rfl _ _ rfl r _ _ _ _ _ _ HR.out rfl rfl rfl (by intro u hu; simp only [List.mem_cons, List.mem_nil_iff, or_false] at hu; rcases hu with rfl | rfl | rfl | rfl <;> first | rfl | exact HO.out.one.1) ?_; intro wf hwf hsf hgf)
            all_goals
              have HF := Pl.hid (KEY.out wf hwf hgf)
              have HWF := Pl.hid hwf
              clear hwf hsf hgf
              (try simp only [Exit.inBlock, Exit.then])
              refine bodyPost_ret (Mm.res_cell_tmp rfl _ wf r _ _ _ _ _ _ rfl HWF.out) rfl ?_
              first
              | exact ⟨.mk K S I ts, _, _, _, _, i, rfl, HF.out⟩
              | exact ⟨.mk K S I ts, _, _, _, _, i, rfl, HF.out.1, HF.out.2.1, HF.out.2.2.1, HF.out.2.2.2.1, HF.out.2.2.2.2.1 hlt, HF.out.2.2.2.2.2.1, HF.out.2.2.2.2.2.2⟩
    · have hlt : ¬ at_ < l.length := by omega
      go_wp2_with (refine Mm.wp_store4 _ rfl _ _ rfl w.heap.size _ _ _ _ _ _ (heap_alloc_new w _) rfl rfl rfl (by intro u hu; simp only [List.mem_cons, List.mem_nil_iff, or_false] at hu; rcases hu with rfl | rfl | rfl | rfl <;> rfl) ?_; intro wf hwf hsf hgf)
      have HWF := Pl.hid hwf
      have HG := Pl.hid hgf
      clear hwf hsf hgf
      (try simp only [Exit.inBlock, Exit.then])
      refine bodyPost_ret (Mm.res_cell_tmp rfl _ wf w.heap.size _ _ _ _ _ _ rfl HWF.out) rfl ?_
      refine ⟨.mk 5 ⟨#[]⟩ 0 [], _, _, _, _, at_, rfl, (Mm.OwnL.nil wf w.heap.size).rep 5 ⟨#[]⟩ 0, ?_, Nat.le_refl _, hat, fun h => absurd h hlt, ?_, .mk _ _ _ _ (by unfold Pl.In64; omega) (fun t ht => by cases ht)⟩
      · exact ((Below.refl _ _).alloc (Nat.le_refl _) _).grown HG.out (by simp) (fun k hk => by cases hk; exact Nat.le_refl _)
      · rw [RT.sz_mk]
        have e0 : (⟨#[]⟩ : ByteArray).size = 0 := rfl
        have e1 : RT.szL [] = 0 := by simp [RT.szL]
        omega
end Go.Proofs.YtakldjdohgmeiaaDoor

namespace Go.Proofs.YtakldjdohgmeiaaDoor
open Go.RowKit
set_option maxRecDepth 20000

set_option maxHeartbeats 4000000 in
theorem twin_walk (W : World) : ∀ (t : RT), t.sz ≤ 1073741824 → ∀ (c0 c1 c2 c3 : Value), Mm.RepX W t [c0, c1, c2, c3] → ∀ w : World, Below W.heap.size W w →
    Calls Tryd.prog 19 #[.agg #[c0, c1, c2, c3]] w fun e w' => ∃ (d0 d1 d2 d3 : Value), e = .returned (.agg #[d0, d1, d2, d3]) ∧ Mm.OwnT w' w.heap.size t [d0, d1, d2, d3] ∧ Below w.heap.size w w' := by
  intro t
  induction t using RT.ind with
  | h k s n l ih =>
    intro hsz c0 c1 c2 c3 hx w hb
    obtain ⟨a, cap, hcs, hel⟩ := hx.open
    simp only [List.cons.injEq, and_true] at hcs
    obtain ⟨rfl, rfl, rfl, rfl⟩ := hcs
    rw [RT.sz_mk] at hsz
    have HL : Hid (l.length < 1073741824) := by have := RT.szL_len l; show _ < _; omega
    have HSZ := Pl.hid hsz
    have IH := Pl.hid ih
    have HB := Pl.hid hb
    have HEL := Pl.hid hel
    clear hb ih hel hx hsz
    go_enter Tryd.func19, Tryd.ntmps19
    go_wp2_with fail
    generalize hw3 : World.alloc _ _ = w3
    obtain ⟨p, hp⟩ : ∃ p, p = w.heap.size + 1 + 1 := ⟨_, rfl⟩
    obtain ⟨r, hr⟩ : ∃ r, r = w.heap.size + 1 := ⟨_, rfl⟩
    have HP3 : Hid (w3.heap[p]? = some (.cells #[.int .i64 k, .string s, .int .i64 n, .slice none 0 0] 31 (0, 0))) := by
      show _ = _
      rw [← hw3, hp]
      have := heap_alloc_new ((w.alloc (.cells #[.int .i64 k, .string s, .int .i64 n, .slice a l.length cap] 31)).alloc (.cells #[.int .i64 0, .string ⟨#[]⟩, .int .i64 0, .slice none 0 0] 31)) (.cells #[.int .i64 k, .string s, .int .i64 n, .slice none 0 0] 31)
      simpa using this
    have HR3 : Hid (w3.heap[r]? = some (.cells #[.int .i64 0, .string ⟨#[]⟩, .int .i64 0, .slice none 0 0] 31 (0, 0))) := by
      show _ = _
      rw [← hw3, hr, Below.heap_alloc _ _ _ (by simp)]
      have := heap_alloc_new (w.alloc (.cells #[.int .i64 k, .string s, .int .i64 n, .slice a l.length cap] 31)) (.cells #[.int .i64 0, .string ⟨#[]⟩, .int .i64 0, .slice none 0 0] 31)
      simpa using this
    have HB3 : Hid (Below w.heap.size w w3) := by rw [← hw3]; exact (((Below.refl _ _).alloc (Nat.le_refl _) _).alloc (by simp) _).alloc (by simp; omega) _
    have HS3 : Hid (w3.heap.size = w.heap.size + 3) := by show _ = _; rw [← hw3]; simp
    have HPR : Hid (p = w.heap.size + 2 ∧ r = w.heap.size + 1) := ⟨hp, hr⟩
    obtain ⟨lo, hlo⟩ : ∃ lo, lo = w3.heap.size := ⟨_, rfl⟩
    have HLO : Hid (lo = w.heap.size + 3 ∧ lo = w3.heap.size) := ⟨hlo.trans HS3.out, hlo⟩
    rw [← hp, ← hr]
    clear hw3 hp hr hlo
    go_loopw [11] (fun iv wr => ∃ (i : Nat) (lv : Value), iv = .int .i64 i ∧ i ≤ l.length ∧ Hid (wr.heap[p]? = some (.cells #[.int .i64 k, .string s, .int .i64 n, lv] 31 (0, 0))) ∧
        Hid (wr.heap[r]? = some (.cells #[.int .i64 0, .string ⟨#[]⟩, .int .i64 0, .slice none 0 0] 31 (0, 0))) ∧ Hid (Mm.OwnL wr lo lv (l.take i)) ∧ Hid (Below w.heap.size w wr ∧ lo ≤ wr.heap.size)) (fun iv _ => l.length - (intOf iv).toNat)
    case atStart => exact ⟨0, .slice none 0 0, rfl, Nat.zero_le _, HP3, HR3, Mm.OwnL.nil w3 lo, HB3.out, Nat.le_of_eq HLO.out.2⟩
    case round =>
      obtain ⟨i, lv, rfl, hi, HP, HR, HO, HBr⟩ := hrel
      have e0 := Mm.cell_of HP.out (i := 0) rfl
      have e1 := Mm.cell_of HP.out (i := 1) rfl
      have e2 := Mm.cell_of HP.out (i := 2) rfl
      have e3 := Mm.cell_of HP.out (i := 3) rfl
      rcases Nat.lt_or_ge i l.length with hlt | hge
      · rcases HEL.out with h0 | ⟨b, rfl, hbl, hel⟩
        · omega
        obtain ⟨f0, f1, f2, f3, h0, h1, h2, h3, hrep⟩ := hel i hlt
        have HBW : Hid (Below W.heap.size W wr) := HB.out.trans (HBr.out.1.mono HB.out.size)
        have g0 : wr.cell? ⟨b, i * 4, none⟩ = some f0 := (HBW.out.cell (p := ⟨b, i * 4, none⟩) hbl).trans h0
        have g1 : wr.cell? ⟨b, i * 4 + 1, none⟩ = some f1 := (HBW.out.cell (p := ⟨b, i * 4 + 1, none⟩) hbl).trans h1
        have g2 : wr.cell? ⟨b, i * 4 + 2, none⟩ = some f2 := (HBW.out.cell (p := ⟨b, i * 4 + 2, none⟩) hbl).trans h2
        have g3 : wr.cell? ⟨b, i * 4 + 3, none⟩ = some f3 := (HBW.out.cell (p := ⟨b, i * 4 + 3, none⟩) hbl).trans h3
        have HREP := Pl.hid hrep
        clear h0 h1 h2 h3 hrep hel
        obtain ⟨q, hq⟩ : ∃ q, q = wr.heap.size := ⟨_, rfl⟩
        have HQ := Pl.hid hq
        have HPLT : Hid (p < q ∧ r < q) := ⟨by rw [hq]; exact (Array.getElem?_eq_some_iff.1 HP.out).1, by rw [hq]; exact (Array.getElem?_eq_some_iff.1 HR.out).1⟩
        clear hq e0 e1 e2 e3
        go_wp2_with (refine Mm.wp_store4 _ rfl _ _ rfl wr.heap.size _ _ _ _ _ _ (heap_alloc_new wr _) rfl rfl rfl HREP.out.one ?_; intro w4 hw4 hs4 hg4; have HW4 := Pl.hid hw4; have HG4 := Pl.hid hg4; clear hw4 hs4 hg4)
        rw [HQ.out.symm] at HW4 HG4
        have hq := HQ.out
        have hplt := HPLT.out
        have hlo' := HLO.out
        have hbr := HBr.out.2
        have HPN : Hid (p ≠ q ∧ r ≠ q ∧ p < lo ∧ r < lo ∧ q < w4.heap.size ∧ wr.heap.size = q ∧ lo ≤ q) := by
          have hh := HPR.out
          have hz := HG4.out.size
          have hz' : (wr.alloc (.cells #[.int .i64 0, .string ⟨#[]⟩, .int .i64 0, .slice none 0 0] 31)).heap.size = wr.heap.size + 1 := by simp
          exact ⟨by omega, by omega, by omega, by omega, by omega, by omega, by omega⟩
        have HBw4 : Hid (Below wr.heap.size wr w4) := ((Below.refl _ _).alloc (Nat.le_refl _) _).grown HG4.out (by simp) (fun k hk => by cases hk; exact Nat.le_of_eq HQ.out.symm)
        have HP4 : Hid (w4.heap[p]? = some (.cells #[.int .i64 k, .string s, .int .i64 n, lv] 31 (0, 0))) := (HBw4.out.block p (by omega)).trans HP.out
        have HR4 : Hid (w4.heap[r]? = some (.cells #[.int .i64 0, .string ⟨#[]⟩, .int .i64 0, .slice none 0 0] 31 (0, 0))) := (HBw4.out.block r (by omega)).trans HR.out
        have HLN : Hid ((l.take i).length < 1073741824 ∧ (l[i]'hlt).sz ≤ 1073741824 ∧ l.take i ++ [l[i]'hlt] = l.take (i + 1)) :=
          ⟨by rw [List.length_take]; have := HL.out; omega, by have := RT.szL_mem (List.getElem_mem hlt); have := HSZ.out; omega, by rw [List.take_add_one, List.getElem?_eq_getElem hlt]; rfl⟩
        have ST5 : Hid (∀ (w5 : World) (d0 d1 d2 d3 : Value), Below w4.heap.size w4 w5 → Mm.OwnT w5 w4.heap.size (l[i]'hlt) [d0, d1, d2, d3] → w5.cell? ⟨p, 3, none⟩ = some lv ∧ (w5.alloc (.cells #[d0, d1, d2, d3] 31)).cell? ⟨p, 3, none⟩ = some lv ∧
            Hid (Mm.OwnT w5 wr.heap.size (l[i]'hlt) [d0, d1, d2, d3]) ∧ Hid (Below wr.heap.size wr w5) ∧ Hid (w5.heap[p]? = some (.cells #[.int .i64 k, .string s, .int .i64 n, lv] 31 (0, 0))) ∧ Hid (w5.heap[r]? = some (.cells #[.int .i64 0, .string ⟨#[]⟩, .int .i64 0, .slice none 0 0] 31 (0, 0)))) := fun w5 d0 d1 d2 d3 hb ho => by
          have hn := HPN.out
          have h5 := (hb.block p (by omega)).trans HP4.out
          have c5 := Mm.cell_of h5 (i := 3) (v := lv) rfl
          exact ⟨c5, (World.cell?_alloc_old _ _ _ (by have := World.block_lt_of_cell? _ _ c5; exact Nat.ne_of_lt this)).trans c5, ho.lo (by omega), HBw4.out.trans (hb.mono (by omega)), h5, (hb.block r (by omega)).trans HR4.out⟩
        have ST6 : Hid (∀ (w5 w6 : World), w5.heap[p]? = some (.cells #[.int .i64 k, .string s, .int .i64 n, lv] 31 (0, 0)) → Below lo w5 w6 → w6.cell? ⟨p, 3, none⟩ = some lv ∧ w6.frozen? ⟨p, 3, none⟩ = false) := fun w5 w6 h5 hb => by
          have h6 := (hb.block p HPN.out.2.2.1).trans h5
          exact ⟨Mm.cell_of h6 (i := 3) rfl, Mm.frozen_of h6⟩
        have HBW4 : Hid (Below W.heap.size W w4) := HBW.out.trans (HBw4.out.mono HBW.out.size)
        have p3 := Mm.cell_of HP4.out (i := 3) (v := lv) rfl
        have q0 := Mm.cell_of HW4.out (i := 0) rfl
        have q1 := Mm.cell_of HW4.out (i := 1) rfl
        have q2 := Mm.cell_of HW4.out (i := 2) rfl
        have q3 := Mm.cell_of HW4.out (i := 3) rfl
        rw [← hq]
        clear hq hplt hlo' hbr g0 g1 g2 g3
        go_region_law (first
          | (go_simp; go_at_call 19; (refine (IH.out _ (List.getElem_mem hlt) HLN.out.2.1 f0 f1 f2 f3 HREP.out _ (by first | exact HBW4.out | exact HBW4.out.drew)).mono ?_; rintro e w5 ⟨d0, d1, d2, d3, rfl, ho5, hb5⟩; obtain ⟨p5, p5a, HT5, HB5, HP5, HR5⟩ := ST5.out w5 d0 d1 d2 d3 (Mm.undrew hb5) ho5; clear ho5 hb5))
          | (refine Mm.step_appR _ (by rfl) _ _ (by rfl) wr w5 lo lv (l.take i) (by rfl) HO.out (l[i]'hlt) [d0, d1, d2, d3] HT5.out (by rfl) (by rfl) HB5.out HLN.out.1 HBr.out.2 ?_; intro v6 w6 ho6 hb6 _; obtain ⟨a6, k6, rfl⟩ := ho6.val; obtain ⟨p6, pf6⟩ := ST6.out w5 w6 HP5.out hb6; have HO6 := Pl.hid ho6; have HB6 := Pl.hid hb6; clear ho6 hb6))
        all_goals
          have HV : Hid ((l.take i ++ [l[i]'hlt]).length = min (i + 1) l.length) := by show _ = _; rw [HLN.out.2.2, List.length_take]
          have HO6' : Hid (Mm.OwnL w6 lo (.slice a6 (min (i + 1) l.length) k6) (l.take (i + 1))) := by
            have := HO6.out
            rw [HV.out, HLN.out.2.2] at this
            exact this
          have HP7 := Pl.hid (Mm.heap_set ((HB6.out.block p HPN.out.2.2.1).trans HP5.out) 3 (.slice a6 (min (i + 1) l.length) k6))
          have HG7 := Pl.hid (Mm.grown_set w6 p 3 (.slice a6 (min (i + 1) l.length) k6))
          generalize World.setCell w6 _ _ = w7 at HP7 HG7
          clear p6 pf6 p5 p5a p3 q0 q1 q2 q3 HO6
          have hlen := HL.out
          go_wp2_with fail
          have hn := HPN.out
          have h5z := HB5.out.size
          have h6z := HB6.out.size
          refine ⟨⟨i + 1, _, by go_num, hlt, HP7, ?_, ?_, ?_⟩, by simp [intOf]; omega⟩
          · show _ = _
            rw [HG7.out.block r (by omega) (by intro e; cases e; have := HPR.out; omega), HB6.out.block r (by omega)]
            exact HR5.out
          · exact HO6'.out.keepLo fun g hg hgl => HG7.out.block g hgl (by intro e; cases e; omega)
          · have hlo := HLO.out
            have hpr := HPR.out
            refine ⟨(HBr.out.1.trans (((HB5.out.mono (by omega)).trans (HB6.out.mono (by omega))))).grown HG7.out (by have := HBr.out.1.size; omega) (fun k hk => by cases hk; omega), ?_⟩
            have := HG7.out.size
            omega
      · have hie : i = l.length := by omega
        subst hie
        have HO' : Hid (Mm.OwnL wr lo lv l) := by have := HO.out; rw [List.take_length] at this; exact this
        go_wp2_with (refine Mm.wp_store4 _ rfl _ _ rfl r _ _ _ _ _ _ HR.out rfl rfl rfl (by intro u hu; simp only [List.mem_cons, List.mem_nil_iff, or_false] at hu; rcases hu with rfl | rfl | rfl | rfl <;> first | rfl | exact HO'.out.one.1) ?_; intro wf hwf hsf hgf)
        have HWF := Pl.hid hwf
        have HG := Pl.hid hgf
        clear hwf hsf hgf
        (try simp only [Exit.inBlock, Exit.then])
        refine bodyPost_ret (Mm.res_cell rfl _ wf r _ _ _ _ _ _ rfl HWF.out) rfl ?_
        have hlo := HLO.out
        have hpr := HPR.out
        have hbr := HBr.out.2
        refine ⟨_, _, _, _, rfl, ?_, HBr.out.1.grown HG.out (by omega) (fun k hk => by cases hk; omega)⟩
        refine ((HO'.out.rep k s n).keepLo (fun g hg hgl => HG.out.block g hgl ?_)).lo (by omega)
        intro e
        cases e
        omega
end Go.Proofs.YtakldjdohgmeiaaDoor

namespace Go.Proofs.YtakldjdohgmeiaaDoor
open Go.RowKit
set_option maxRecDepth 20000
/-- 'r.List', r the result of a call -/
theorem Mm.field_list (a b c : Value) (p : Option Addr) (n q : Nat) (w : World) : (Instr.field 31 (.agg #[a, b, c, .slice p n q]) 3).run Tryd.prog w = .ok (.slice p n q) w := by
  kernel_rfl
end Go.Proofs.YtakldjdohgmeiaaDoor

namespace Go.Proofs.YtakldjdohgmeiaaDoor
open Go.RowKit
set_option maxRecDepth 20000

namespace Mm
open Pl
theorem own_cells {w : World} {lo g c : Nat} {e : TypeId} {z n : Nat} {xs : List Value} (h : w.ownsRow lo e z (.slice (some ⟨g, 0, none⟩) n c) n xs) : ∀ j u, xs[j]? = some u → w.cell? ((⟨g, 0, none⟩ : Addr).add j) = some u := by
  rcases Src.of_own h with ⟨e, _⟩ | ⟨ad, c', e, hc⟩
  · cases e
  · injection e with e1 _ _
    injection e1 with e1
    rw [e1]
    exact hc
theorem RepB.of_row {w : World} {lo : Nat} {v : Value} {ts : List RT} {xs : List Value} {bs : List Nat} (h : w.ownsRow lo 31 4 v ts.length xs) (hr : RowB w ts xs bs) (k : Int) (s : ByteArray) (n : Int) : RepB w (.mk k s n ts) [.int .i64 k, .string s, .int .i64 n, v] (v.ownBlock.toList ++ bs) :=
  .mk k s n ts v xs bs ⟨h.1, by
    rcases h.2 with h | ⟨g', cap, cur, e', hle, r⟩
    · exact .inl h
    · exact .inr ⟨g', cap, cur, e', Nat.zero_le _, r⟩⟩ hr
theorem OwnB.rng {w w' : World} {b : Nat} {v : Value} {l : List UInt8} (h : OwnB w b v l) (k : ∀ g, b ≤ g → g < w.heap.size → w'.heap[g]? = w.heap[g]?) : OwnB w' b v l :=
  h.keep fun g hg => k g (h.lt g hg).1 (h.lt g hg).2
theorem own_cur {w : World} {lo g c n : Nat} {e : TypeId} {xs : List Value} (h : w.ownsRow lo e 1 (.slice (some ⟨g, 0, none⟩) n c) n xs) : ∃ cur, w.heap[g]? = some (.cells cur e (0, 0)) ∧ n ≤ cur.size ∧ ∀ j, j < n → cur[j]? = xs[j]? := by
  rcases h.2 with ⟨h, _⟩ | ⟨g', c', cur, e', _, hh, h1, _, h3, h4⟩
  · cases h
  · injection e' with e1 e2 e3
    injection e1 with e1
    injection e1 with e1
    subst e1
    subst e3
    refine ⟨cur, hh, by omega, fun j hj => ?_⟩
    rw [← h4, List.getElem?_take, if_pos (by omega), Array.getElem?_toList]
theorem own_ge {w : World} {lo : Nat} {e : TypeId} {z n : Nat} {v : Value} {xs : List Value} (h : w.ownsRow lo e z v n xs) : ∀ g ∈ v.ownBlock.toList, lo ≤ g ∧ g < w.heap.size := fun g hg => by
  have hg' : v.ownBlock = some g := by simpa using hg
  rcases h.2 with ⟨rfl, _⟩ | ⟨g', c, _, rfl, hle, hh, _⟩
  · cases hg'
  · injection hg' with e
    have e : g' = g := e
    subst e
    exact ⟨hle, (Array.getElem?_eq_some_iff.1 hh).1⟩
end Mm
theorem Mm.RowT.src {w : World} {v : Value} {ws : List (List UInt8)} (h : Mm.RowT w v ws) (hf : v = .slice none 0 0 ∨ ∃ ad k c, v = .slice (some ad) k c) : Mm.Src w v ws.length (Mm.strsV ws) := by
  obtain ⟨a, c, rfl, hc, hm⟩ := h
  rcases hf with e | ⟨ad, k, c', e⟩
  · injection e with e1 e2 e3
    obtain rfl : ws = [] := List.eq_nil_of_length_eq_zero e2
    subst e1
    subst e3
    exact .inl ⟨rfl, rfl, rfl⟩
  · injection e with e1 e2 e3
    subst e1
    refine .inr ⟨ad, c, rfl, fun j u hj => ?_⟩
    have hj' : j < ws.length := by
      have := (List.getElem?_eq_some_iff.1 hj).1
      simpa [strsV] using this
    obtain ⟨g, o, e', hx⟩ := hm (by omega)
    injection e' with e'
    subst e'
    have e : (⟨g, o, none⟩ : Addr).add j = ⟨g, o + j, none⟩ := by unfold Addr.add; split <;> simp_all
    rw [e, hx j _ (List.getElem?_eq_getElem hj')]
    simp only [strsV, List.getElem?_map, List.getElem?_eq_getElem hj', Option.map_some, Option.some.injEq] at hj
    rw [← hj]
theorem rarray_src (w : World) (v : Value) (m : Nat) (xs : List Value) (hs : Mm.Src w v m xs) (hl : xs.length = m * 4) (h1 : ∀ u ∈ xs, u.oneCell' = true) (hm : m ≤ 1073741824) :
    Calls Tryd.prog 25 #[v] w fun e w' => ∃ v', e = .returned (.agg #[.int .i64 6, .string ⟨#[]⟩, .int .i64 0, v']) ∧ w'.ownsRow w.heap.size 31 4 v' m xs ∧ Below w.heap.size w w' := by
  rcases hs with ⟨rfl, rfl, rfl⟩ | ⟨ad, c, rfl, hc⟩
  · exact rarray_none w
  · exact rarray_walk w ad m c xs hl hc h1 hm

set_option maxHeartbeats 16000000 in
theorem makes_walk (W : World) (s : ByteArray) (n : Int) (vt : Value) (ws : List (List UInt8)) (v : Value) (l : List Nd) (hs : s.size ≤ 1048576) (ht : Mm.RowT W vt ws) (htf : vt = .slice none 0 0 ∨ ∃ ad k c, vt = .slice (some ad) k c) (hws : ws.length + (ws.map List.length).sum ≤ 1048576) (hwl : ∀ x ∈ ws, x.length ≤ 1048576)
    (hv : Mm.NodesV W v l) (hl : ndW l ≤ 5242880) (hI : ∀ nd ∈ l, Pl.In64 nd.n) (hT : Mm.Tab W) (hX : Mm.MaxI W) :
    Calls Tryd.prog 5 #[.string s, .int .i64 n, vt, v] W fun e w' => e = .returned (.bool true) ∧ Below W.heap.size W w' := by
  have HTR : Hid _ := Pl.hid (tree_walk W v l hv (by omega) hI 12 0 (Nat.le_refl _) rfl 0 W (Nat.zero_le _) (Below.refl _ _))
  have HT := Pl.hid hT
  have HX := Pl.hid hX
  have HLW := Pl.hid hl
  have HRT := Pl.hid ht
  have HTF := Pl.hid htf
  have HWS := Pl.hid hws
  have HWL := Pl.hid hwl
  have HSS := Pl.hid hs
  obtain ⟨va, vc, rfl, _⟩ := hv
  obtain ⟨ta, tc, rfl⟩ : ∃ a c, vt = .slice a ws.length c := by obtain ⟨a, c, h, _⟩ := ht; exact ⟨a, c, h⟩
  obtain ⟨M, hM⟩ : ∃ M, M = ws.length := ⟨_, rfl⟩
  have hM8 : M ≤ 1048576 := by omega
  rw [← hM] at HRT HTF ⊢
  have HM := Pl.hid hM
  clear hT hX hI hl ht htf hws hwl hs hM
  go_enter Tryd.func5, Tryd.ntmps5
  go_wp2_with fail
  refine HTR.out.mono ?_
  rintro e w1 ⟨t, c0, c1, c2, c3, j, rfl, ho1, hb1, _, _, _, hsz, hin⟩
  have hsz' : t.sz ≤ 1073741824 := by have := HLW.out; omega
  have HO1X := Pl.hid ho1.x
  obtain ⟨kk, s0, n0, ts⟩ := t
  obtain ⟨v1, hcs, hol⟩ := ho1.list
  simp only [List.cons.injEq, and_true] at hcs
  obtain ⟨rfl, rfl, rfl, rfl⟩ := hcs
  obtain ⟨a1, q1, rfl⟩ := hol.val
  obtain ⟨m, hm⟩ : ∃ m, m = ts.length := ⟨_, rfl⟩
  obtain ⟨xs, bs, hown, hrow, _, _⟩ := hol
  have HM' := Pl.hid hm
  rw [← hm] at hown HO1X ⊢
  have HRW := Pl.hid hrow
  have HSRC := Pl.hid (Mm.Src.of_own hown)
  have HXL : Hid (xs.length = m * 4) := by show _ = _; rw [hrow.len, hm]
  have HX1 := Pl.hid hrow.one
  have HBL := Pl.hid hrow.lt
  have HB1 := Pl.hid hb1
  have HSZ := Pl.hid hsz'
  have hm8 : m ≤ 1073741000 := by rw [hm]; have := RT.szL_len ts; rw [RT.sz_mk] at hsz'; omega
  have HSZ6 : Hid ((RT.mk 6 ⟨#[]⟩ 0 ts).sz ≤ 1073741824) := by
    show _ ≤ _
    rw [RT.sz_mk] at hsz' ⊢
    have e0 : (⟨#[]⟩ : ByteArray).size = 0 := rfl
    omega
  clear ho1 hb1 hsz hsz' hin HTR hown hrow hm
  obtain ⟨p, hp⟩ : ∃ p, p = w1.heap.size := ⟨_, rfl⟩
  obtain ⟨w2, hw2⟩ : ∃ w2 : World, w2 = w1 := ⟨_, rfl⟩
  clear hw2 w2
  have HP := Pl.hid hp
  go_upto_region 2 with (refine Mm.wp_store4 _ rfl _ _ rfl w1.heap.size _ _ _ _ _ _ (heap_alloc_new w1 _) rfl rfl rfl HO1X.out.one ?_; intro w2 hw2 hz2 hg2; rw [← hp] at hw2 ⊢; have HW2 := Pl.hid hw2; have HB2 := Pl.hid (Mm.newcell4 hg2); clear hw2 hg2 hp hz2)
  obtain ⟨q, hq⟩ : ∃ q, q = w2.heap.size := ⟨_, rfl⟩
  have HQ := Pl.hid hq
  clear hq
  have HST : Hid (∀ w3 : World, Below w2.heap.size w2 w3 → w3.cell? ⟨p, 3, none⟩ = some (.slice a1 m q1) ∧ Mm.Src w3 (.slice a1 m q1) m xs) := fun w3 hb => by
    have h3 := (hb.block p (Array.getElem?_eq_some_iff.1 HW2.out).1).trans HW2.out
    exact ⟨Mm.cell_of h3 (i := 3) rfl, (HSRC.out.below HB2.out).below hb⟩
  go_cut [11] from 27 to 34 (fun c wx => ∃ g4 c4 : Nat, c = .slice (some ⟨g4, 0, none⟩) m c4 ∧ Hid (wx.ownsRow w2.heap.size 31 4 (.slice (some ⟨g4, 0, none⟩) m c4) m xs) ∧ Hid (w2.heap.size ≤ g4 ∧ g4 < wx.heap.size) ∧ Hid (Below w2.heap.size w2 wx))
  case first =>
    have k3 := Mm.cell_of HW2.out (i := 3) rfl
    have hmm : m ≤ 1073741824 := by omega
    have hwr : IntKind.i64.wrap ((m : Int) + 3) = (m : Int) + 3 := by rw [IntKind.wrap_i64]; omega
    obtain ⟨w3, hmk, ho3, hb3⟩ : ∃ w3, (Instr.makeSlice 29 (.int .i64 0) (.int .i64 ((m : Int) + 3))).run Tryd.prog w2.drew = .ok (.slice (some ⟨q, 0, none⟩) 0 (m + 3)) w3 ∧ w3.ownsRow q 31 4 (.slice (some ⟨q, 0, none⟩) 0 (m + 3)) 0 [] ∧ Below w2.heap.size w2 w3 := by
      rw [HQ.out]
      obtain ⟨i0, hi, hz0, hz1, hz2⟩ := info_parts Mm.Tryd.info_rep
      obtain ⟨w', hrun, r1, r2⟩ := run_make_own (P := Tryd.prog) w2.drew w2.heap.size 29 31 i0 _ 4 Tryd.underlying29 hi hz0 hz1 .i64 .i64 (m + 3) (by rw [hz2]; omega) (by unfold maxLen; omega) (Nat.le_refl _)
      have e : ((m + 3 : Nat) : Int) = (m : Int) + 3 := by omega
      rw [e] at hrun
      exact ⟨w', hrun, r1, Mm.undrew ((Below.refl w2.drew.heap.size w2.drew).grown r2 (Nat.le_refl _) (fun k hk => by cases hk))⟩
    obtain ⟨p3, hs3⟩ := HST.out w3 hb3
    have HS3 := Pl.hid hs3
    have HO3 := Pl.hid ho3
    have HB3 := Pl.hid hb3
    have HQ3 : Hid (q ≤ w3.heap.size) := by show _ ≤ _; rw [HQ.out]; exact hb3.size
    clear ho3 hb3 hs3
    go_region_law (first
      | (refine Mm.step_appN w3 (by rfl) _ _ (by rfl) q q (m + 3) (.slice a1 m q1) m xs (by rfl) (by rfl) HO3.out HQ3.out HXL.out HS3.out HX1.out hmm ?_; intro g4 c4 w4 ho4 hle4 hlt4 hb4; rw [HQ.out] at ho4 hle4; have HO4 := Pl.hid ho4; have HB4 : Hid (Below w2.heap.size w2 w4) := HB3.out.trans (by rw [← HQ.out]; exact hb4); have HG4 := Pl.hid (And.intro hle4 hlt4); clear ho4 hb4 hle4 hlt4))
    all_goals (go_wp2_with fail; go_meet; exact ⟨g4, c4, rfl, HO4, HG4, HB4⟩)
  case rest =>
    obtain ⟨g4, c4, rfl, HO4, HG4, HB4⟩ := hcut
    have hmm : m ≤ 1073741824 := by omega
    go_wp2_with fail
    refine (array_walk wc ⟨g4, 0, none⟩ m c4 xs HXL.out (Mm.own_cells HO4.out) HX1.out hmm).mono ?_
    rintro e w5 ⟨v5, rfl, ho5, hb5⟩
    have HB25 : Hid (Below w2.heap.size w2 w5) := HB4.out.trans (hb5.mono HB4.out.size)
    have HB15 : Hid (Below w1.heap.size w1 w5) := HB2.out.trans (HB25.out.mono HB2.out.size)
    have HVA := Pl.hid (Mm.own_ge ho5)
    have HG5 : Hid (g4 < wc.heap.size ∧ w2.heap.size ≤ g4 ∧ wc.heap.size ≤ w5.heap.size ∧ w1.heap.size ≤ w2.heap.size) := ⟨HG4.out.2, HG4.out.1, hb5.size, HB2.out.size⟩
    have HRA : Hid (Mm.RepB w5 (.mk 6 ⟨#[]⟩ 0 ts) [.int .i64 6, .string ⟨#[]⟩, .int .i64 0, v5] (v5.ownBlock.toList ++ bs)) :=
      Mm.RepB.of_row (by rw [← HM'.out]; exact ho5) (HRW.out.keep fun g hg => HB15.out.block g (HBL.out g hg)) 6 ⟨#[]⟩ 0
    have HO4B : Hid (Mm.ShR w5 w2.heap.size 31 4 (.slice (some ⟨g4, 0, none⟩) m c4) m) := (Mm.ShR.of_own HO4.out).shp (Mm.Shp.below hb5)
    clear ho5 hb5
    obtain ⟨p5, hp5⟩ : ∃ p, p = w5.heap.size := ⟨_, rfl⟩
    have HP5 := Pl.hid hp5
    go_wp2_with (refine Mm.wp_store4 _ rfl _ _ rfl w5.heap.size _ _ _ _ _ _ (heap_alloc_new w5 _) rfl rfl rfl (Mm.RepX.one ⟨_, HRA.out⟩) ?_; intro w6 hww6 hzw6 hgw6; rw [← hp5] at hww6 ⊢; have HC5 := Pl.hid hww6; have HN5 := Pl.hid (Mm.newcell4 hgw6); have HB26 : Hid (Below w2.heap.size w2 w6) := HB25.out.trans (HN5.out.mono HB25.out.size); have HW6 : Hid (w6.heap[p]? = some (.cells #[.int .i64 kk, .string s0, .int .i64 n0, .slice a1 m q1] 31 (0, 0))) := (HB26.out.block p (Array.getElem?_eq_some_iff.1 HW2.out).1).trans HW2.out; have k0 := Mm.cell_of HW6.out (i := 0) rfl; have k1 := Mm.cell_of HW6.out (i := 1) rfl; have k2 := Mm.cell_of HW6.out (i := 2) rfl; have k3 := Mm.cell_of HW6.out (i := 3) rfl; clear hww6 hgw6 hzw6 hp5)
    refine (twin_walk w1 (.mk kk s0 n0 ts) HSZ.out _ _ _ _ HO1X.out w6 (HB2.out.trans (HB26.out.mono HB2.out.size))).mono ?_
    rintro e w7 ⟨d0, d1, d2, d3, rfl, ho7, hb7⟩
    obtain ⟨v7, hcs7, hol7⟩ := ho7.list
    simp only [List.cons.injEq, and_true] at hcs7
    obtain ⟨rfl, rfl, rfl, rfl⟩ := hcs7
    obtain ⟨a7, q7, rfl⟩ := hol7.val
    rw [← HM'.out] at hol7 ⊢
    obtain ⟨xs7, bs7, own7, row7, _, lo7⟩ := hol7
    rw [← HM'.out] at own7
    have HB7 := Pl.hid hb7
    have HS7 := Pl.hid (Mm.Src.of_own own7)
    have HX7 : Hid (xs7.length = m * 4 ∧ ∀ u ∈ xs7, u.oneCell' = true) := ⟨by rw [row7.len, HM'.out], row7.one⟩
    have HR7 := Pl.hid row7
    have HL7 : Hid (∀ g ∈ bs7, w6.heap.size ≤ g ∧ g < w7.heap.size) := fun g hg => ⟨lo7 g (List.mem_append_right _ hg), row7.lt g hg⟩
    clear ho7 own7 row7 lo7 hb7 k0 k1 k2 k3
    have hfd := Mm.field_list (.int .i64 kk) (.string s0) (.int .i64 n0) a7 m q7 w7
    go_wp2_with fail
    clear hfd
    refine (rarray_src w7 _ m xs7 HS7.out HX7.out.1 HX7.out.2 hmm).mono ?_
    rintro e w8 ⟨v8, rfl, ho8, hb8⟩
    have HB8 := Pl.hid hb8
    have HVB := Pl.hid (Mm.own_ge ho8)
    have HRB : Hid (Mm.RepB w8 (.mk 6 ⟨#[]⟩ 0 ts) [.int .i64 6, .string ⟨#[]⟩, .int .i64 0, v8] (v8.ownBlock.toList ++ bs7)) :=
      Mm.RepB.of_row (by rw [← HM'.out]; exact ho8) (HR7.out.keep fun g hg => hb8.block g (HL7.out g hg).2) 6 ⟨#[]⟩ 0
    clear ho8 hb8
    obtain ⟨p8, hp8⟩ : ∃ p, p = w8.heap.size := ⟨_, rfl⟩
    have HP8 := Pl.hid hp8
    go_wp2_with (refine Mm.wp_store4 _ rfl _ _ rfl w8.heap.size _ _ _ _ _ _ (heap_alloc_new w8 _) rfl rfl rfl (Mm.RepX.one ⟨_, HRB.out⟩) ?_; intro w9 hww9 hzw9 hgw9; rw [← hp8] at hww9 ⊢; have HC8 := Pl.hid hww9; have HN8 := Pl.hid (Mm.newcell4 hgw9); have HB69 : Hid (Below w6.heap.size w6 w9) := HB7.out.trans ((HB8.out.trans (HN8.out.mono HB8.out.size)).mono HB7.out.size); have HC5b : Hid (w9.heap[p5]? = some (.cells #[.int .i64 6, .string ⟨#[]⟩, .int .i64 0, v5] 31 (0, 0))) := (HB69.out.block p5 (Array.getElem?_eq_some_iff.1 HC5.out).1).trans HC5.out; have k0 := Mm.cell_of hww9 (i := 0) rfl; have k1 := Mm.cell_of hww9 (i := 1) rfl; have k2 := Mm.cell_of hww9 (i := 2) rfl; have k3 := Mm.cell_of hww9 (i := 3) rfl; have j0 := Mm.cell_of HC5b.out (i := 0) rfl; have j1 := Mm.cell_of HC5b.out (i := 1) rfl; have j2 := Mm.cell_of HC5b.out (i := 2) rfl; have j3 := Mm.cell_of HC5b.out (i := 3) rfl; clear hww9 hgw9 hzw9 hp8)
    have HB59 : Hid (Below w5.heap.size w5 w9) := HN5.out.trans (HB69.out.mono HN5.out.size)
    have HZ : Hid (w5.heap.size ≤ w6.heap.size ∧ w6.heap.size ≤ w7.heap.size ∧ w7.heap.size ≤ w8.heap.size ∧ w8.heap.size ≤ w9.heap.size) := ⟨HN5.out.size, HB7.out.size, HB8.out.size, HN8.out.size⟩
    have HRA9 : Hid (Mm.RepB w9 (.mk 6 ⟨#[]⟩ 0 ts) [.int .i64 6, .string ⟨#[]⟩, .int .i64 0, v5] (v5.ownBlock.toList ++ bs)) := HRA.out.keep fun g hg => HB59.out.block g (HRA.out.lt g hg)
    have HRB9 : Hid (Mm.RepB w9 (.mk 6 ⟨#[]⟩ 0 ts) [.int .i64 6, .string ⟨#[]⟩, .int .i64 0, v8] (v8.ownBlock.toList ++ bs7)) := HRB.out.keep fun g hg => HN8.out.block g (HRB.out.lt g hg)
    have HNE : Hid ((∀ g ∈ v5.ownBlock.toList ++ bs, g ≠ g4) ∧ (∀ g ∈ v8.ownBlock.toList ++ bs7, g ≠ g4) ∧ p5 ≠ g4 ∧ p8 ≠ g4 ∧ p5 < w9.heap.size ∧ p8 < w9.heap.size ∧ g4 < w9.heap.size) := by
      have h5 := HG5.out
      have hz := HZ.out
      have e5 := HP5.out
      have e8 := HP8.out
      refine ⟨fun g hg => ?_, fun g hg => ?_, by omega, by omega, (Array.getElem?_eq_some_iff.1 HC5b.out).1, (Array.getElem?_eq_some_iff.1 HC8.out).1, by omega⟩
      · rcases List.mem_append.1 hg with hg | hg
        · have := HVA.out g hg; omega
        · have := HBL.out g hg; omega
      · rcases List.mem_append.1 hg with hg | hg
        · have := HVB.out g hg; omega
        · have := HL7.out g hg; omega
    have HBW : Hid (Below W.heap.size W w9) := HB1.out.trans ((HB15.out.trans (HB59.out.mono HB15.out.size)).mono HB1.out.size)
    have HG9 : Hid (Mm.ShR w9 w2.heap.size 31 4 (.slice (some ⟨g4, 0, none⟩) m c4) m) := HO4B.out.shp (Mm.Shp.below HB59.out)
    refine (same_tree w9 _ HSZ6.out _ _ _ _ _ _ _ _ ⟨_, HRA9.out⟩ ⟨_, HRB9.out⟩ w9 (Below.refl _ _)).mono ?_
    rintro e x0 ⟨rfl, hb⟩
    have HY0 := Pl.hid hb
    clear hb k0 k1 k2 k3 j0 j1 j2 j3
    go_wp2_with fail
    refine (mk_simple s x0).mono ?_
    rintro e x1 ⟨rfl, hb⟩
    have HY1 := Pl.hid (HY0.out.trans (hb.mono HY0.out.size))
    clear hb HY0
    go_wp2_with fail
    refine (mk_rsimple s x1).mono ?_
    rintro e x2 ⟨rfl, hb⟩
    have HY2 := Pl.hid (HY1.out.trans (hb.mono HY1.out.size))
    clear hb HY1
    go_wp2_with fail
    refine (same_tree w9 (.mk 1 s 0 []) (by have := HSS.out; have := Pl.errT_size s; have : (⟨#[]⟩ : ByteArray).size = 0 := rfl; rw [RT.sz_mk]; simp only [RT.szL]; omega) _ _ _ _ _ _ _ _ (Mm.leaf_x w9 1 s 0) (Mm.leaf_x w9 1 s 0) x2 HY2.out).mono ?_
    rintro e x3 ⟨rfl, hb⟩
    have HY3 := Pl.hid (HY2.out.trans (hb.mono HY2.out.size))
    clear hb HY2
    go_wp2_with fail
    refine (mk_error s x3 (HX.out.on (HBW.out.trans (HY3.out.mono HBW.out.size))) (by have := HSS.out; omega)).mono ?_
    rintro e x4 ⟨rfl, hb⟩
    have HY4 := Pl.hid (HY3.out.trans (hb.mono HY3.out.size))
    clear hb HY3
    go_wp2_with fail
    refine (mk_rerror s x4 (by have := HSS.out; omega)).mono ?_
    rintro e x5 ⟨rfl, hb⟩
    have HY5 := Pl.hid (HY4.out.trans (hb.mono HY4.out.size))
    clear hb HY4
    go_wp2_with fail
    refine (same_tree w9 (.mk 2 (Pl.errT s) 0 []) (by have := HSS.out; have := Pl.errT_size s; have : (⟨#[]⟩ : ByteArray).size = 0 := rfl; rw [RT.sz_mk]; simp only [RT.szL]; omega) _ _ _ _ _ _ _ _ (Mm.leaf_x w9 2 (Pl.errT s) 0) (Mm.leaf_x w9 2 (Pl.errT s) 0) x5 HY5.out).mono ?_
    rintro e x6 ⟨rfl, hb⟩
    have HY6 := Pl.hid (HY5.out.trans (hb.mono HY5.out.size))
    clear hb HY5
    go_wp2_with fail
    refine (mk_int n x6).mono ?_
    rintro e x7 ⟨rfl, hb⟩
    have HY7 := Pl.hid (HY6.out.trans (hb.mono HY6.out.size))
    clear hb HY6
    go_wp2_with fail
    refine (mk_rint n x7).mono ?_
    rintro e x8 ⟨rfl, hb⟩
    have HY8 := Pl.hid (HY7.out.trans (hb.mono HY7.out.size))
    clear hb HY7
    go_wp2_with fail
    refine (same_tree w9 (.mk 3 ⟨#[]⟩ n []) (by have := HSS.out; have := Pl.errT_size s; have : (⟨#[]⟩ : ByteArray).size = 0 := rfl; rw [RT.sz_mk]; simp only [RT.szL]; omega) _ _ _ _ _ _ _ _ (Mm.leaf_x w9 3 ⟨#[]⟩ n) (Mm.leaf_x w9 3 ⟨#[]⟩ n) x8 HY8.out).mono ?_
    rintro e x9 ⟨rfl, hb⟩
    have HY9 := Pl.hid (HY8.out.trans (hb.mono HY8.out.size))
    clear hb HY8
    go_wp2_with fail
    refine (mk_bulk s x9).mono ?_
    rintro e x10 ⟨rfl, hb⟩
    have HY10 := Pl.hid (HY9.out.trans (hb.mono HY9.out.size))
    clear hb HY9
    go_wp2_with fail
    refine (mk_rbulk s x10).mono ?_
    rintro e x11 ⟨rfl, hb⟩
    have HY11 := Pl.hid (HY10.out.trans (hb.mono HY10.out.size))
    clear hb HY10
    go_wp2_with fail
    refine (same_tree w9 (.mk 4 s 0 []) (by have := HSS.out; have := Pl.errT_size s; have : (⟨#[]⟩ : ByteArray).size = 0 := rfl; rw [RT.sz_mk]; simp only [RT.szL]; omega) _ _ _ _ _ _ _ _ (Mm.leaf_x w9 4 s 0) (Mm.leaf_x w9 4 s 0) x11 HY11.out).mono ?_
    rintro e x12 ⟨rfl, hb⟩
    have HY12 := Pl.hid (HY11.out.trans (hb.mono HY11.out.size))
    clear hb HY11
    go_wp2_with fail
    refine (mk_null x12).mono ?_
    rintro e x13 ⟨rfl, hb⟩
    have HY13 := Pl.hid (HY12.out.trans (hb.mono HY12.out.size))
    clear hb HY12
    go_wp2_with fail
    refine (mk_rnull x13).mono ?_
    rintro e x14 ⟨rfl, hb⟩
    have HY14 := Pl.hid (HY13.out.trans (hb.mono HY13.out.size))
    clear hb HY13
    go_wp2_with fail
    refine (same_tree w9 (.mk 5 ⟨#[]⟩ 0 []) (by have := HSS.out; have := Pl.errT_size s; have : (⟨#[]⟩ : ByteArray).size = 0 := rfl; rw [RT.sz_mk]; simp only [RT.szL]; omega) _ _ _ _ _ _ _ _ (Mm.leaf_x w9 5 ⟨#[]⟩ 0) (Mm.leaf_x w9 5 ⟨#[]⟩ 0) x14 HY14.out).mono ?_
    rintro e x15 ⟨rfl, hb⟩
    have HY15 := Pl.hid (HY14.out.trans (hb.mono HY14.out.size))
    clear hb HY14
    go_wp2_with fail
    have HG10 : Hid (Mm.ShR x15 w2.heap.size 31 4 (.slice (some ⟨g4, 0, none⟩) m c4) m) := HG9.out.shp (Mm.Shp.below HY15.out)
    go_loopw [85] (fun iv wr => ∃ i : Nat, iv = .int .i64 i ∧ i ≤ m ∧ Hid (w9.grownBy wr (some g4)) ∧ Hid (Mm.ShR wr w2.heap.size 31 4 (.slice (some ⟨g4, 0, none⟩) m c4) m)) (fun iv _ => m - (intOf iv).toNat)
    case atStart => exact ⟨0, rfl, Nat.zero_le _, Mm.grown_below HY15.out, HG10.out⟩
    case round =>
      obtain ⟨i, rfl, hi, HG, HS⟩ := hrel
      rcases Nat.lt_or_ge i m with hlt | hge
      · obtain ⟨cur, hcur, hcsz⟩ : ∃ cur, wr.heap[g4]? = some (.cells cur 31 (0, 0)) ∧ m * 4 ≤ cur.size := by
          rcases HS.out with ⟨h, _⟩ | ⟨g, cap, cur, e, _, hh, h1, _, h3⟩
          · cases h
          · injection e with e1 e2 e3
            injection e1 with e1
            injection e1 with e1
            subst e1
            exact ⟨cur, hh, by omega⟩
        have HCU := Pl.hid hcur
        have HCS := Pl.hid hcsz
        clear hcur hcsz
        go_wp2_with (refine Mm.wp_store4At wr rfl _ _ rfl g4 (i * 4) 31 cur _ _ _ _ HCU.out (by have := HCS.out; omega) (by rfl) rfl Mm.leaf_one ?_; intro w' cs' hh1 hh2 hh3 hh4 hh5; have HS2 := Pl.hid (HS.out.shp (Mm.Shp.store HCU.out hh1 hh2 hh5)); have HG2 := Pl.hid (Mm.grown_step HG.out hh5 (fun k hk => .inl hk.symm)); clear hh1 hh2 hh3 hh4 hh5)
        exact ⟨⟨i + 1, by go_num, hlt, HG2.out, HS2.out⟩, by simp [intOf]; omega⟩
      · obtain rfl : m = i := by omega
        have E9 : Hid (∀ g, g < w9.heap.size → g ≠ g4 → wr.heap[g]? = w9.heap[g]?) := fun g h1 h2 => HG.out.block g h1 (fun e => by injection e with e; exact h2 e)
        have HRAr : Hid (Mm.RepB wr (.mk 6 ⟨#[]⟩ 0 ts) [.int .i64 6, .string ⟨#[]⟩, .int .i64 0, v5] (v5.ownBlock.toList ++ bs)) := HRA9.out.keep fun g hg => E9.out g (HRA9.out.lt g hg) (HNE.out.1 g hg)
        have HRBr : Hid (Mm.RepB wr (.mk 6 ⟨#[]⟩ 0 ts) [.int .i64 6, .string ⟨#[]⟩, .int .i64 0, v8] (v8.ownBlock.toList ++ bs7)) := HRB9.out.keep fun g hg => E9.out g (HRB9.out.lt g hg) (HNE.out.2.1 g hg)
        have HC5r := Pl.hid ((E9.out p5 HNE.out.2.2.2.2.1 HNE.out.2.2.1).trans HC5b.out)
        have HC8r := Pl.hid ((E9.out p8 HNE.out.2.2.2.2.2.1 HNE.out.2.2.2.1).trans HC8.out)
        have k0 := Mm.cell_of HC8r.out (i := 0) rfl
        have k1 := Mm.cell_of HC8r.out (i := 1) rfl
        have k2 := Mm.cell_of HC8r.out (i := 2) rfl
        have k3 := Mm.cell_of HC8r.out (i := 3) rfl
        have j0 := Mm.cell_of HC5r.out (i := 0) rfl
        have j1 := Mm.cell_of HC5r.out (i := 1) rfl
        have j2 := Mm.cell_of HC5r.out (i := 2) rfl
        have j3 := Mm.cell_of HC5r.out (i := 3) rfl
        have HBWr : Hid (Below W.heap.size W wr) := HBW.out.grown HG.out HBW.out.size (fun k hk => by injection hk with hk; have := HG5.out; have := HB1.out.size; omega)
        go_wp2_with fail
        refine (same_tree wr _ HSZ6.out _ _ _ _ _ _ _ _ ⟨_, HRAr.out⟩ ⟨_, HRBr.out⟩ wr (Below.refl _ _)).mono ?_
        rintro e y1 ⟨rfl, hb⟩
        have HBY1 := Pl.hid (HBWr.out.trans (hb.mono HBWr.out.size))
        clear hb k0 k1 k2 k3 j0 j1 j2 j3 HRAr HRBr HC5r HC8r E9
        have HSR1 : Hid (Mm.Src y1 (.slice ta M tc) M (Mm.strsV ws)) := by
          have h := (HRT.out.src HTF.out).below HBY1.out
          rw [← HM.out] at h
          exact h
        obtain ⟨qt, hqt⟩ : ∃ q, q = y1.heap.size := ⟨_, rfl⟩
        have HQT := Pl.hid hqt
        have HLS : Hid ((Mm.strsV ws).length = M * 1 ∧ ∀ u ∈ Mm.strsV ws, u.oneCell' = true) := ⟨by rw [HM.out]; simp [Mm.strsV], fun u hu => by
          unfold Mm.strsV at hu
          obtain ⟨x, _, rfl⟩ := List.mem_map.1 hu
          rfl⟩
        have hM9 : M + 3 ≤ 1073741824 := by omega
        go_wp2_with (first
          | (refine Mm.wp_makeT y1 rfl _ _ rfl (M + 3) _ (by rfl) (by rfl) (by omega) hM9 ?_; intro y2 hm2 hb2; rw [← hqt] at hm2 hb2 ⊢; have HO2 := Pl.hid hm2; have HBY2 := Pl.hid hb2; clear hm2 hb2 hqt)
          | (at_builtin; refine Mm.wp_appT y2 rfl _ _ (by rfl) qt qt (M + 3) _ M (Mm.strsV ws) (by rfl) (by rfl) HO2.out (by have := HBY2.out.size; have := HQT.out; omega) HLS.out.1 (HSR1.out.below (by rw [← HQT.out]; exact HBY2.out)) HLS.out.2 (by omega) ?_; intro g5 c5 y3 ho3 hle3 hlt3 hb3; have HO3 := Pl.hid ho3; have HBY3 : Hid (Below qt y1 y3) := HBY2.out.trans hb3; have HG5' := Pl.hid (And.intro hle3 hlt3); clear ho3 hle3 hlt3 hb3))
        have HOS3 : Hid (Mm.OwnS y3 qt (.slice (some ⟨g5, 0, none⟩) M c5) ws) := by
          have h := HO3.out
          rw [HM.out] at h ⊢
          exact h
        have HRT3 := Pl.hid HOS3.out.rowT
        have HQY : Hid (W.heap.size ≤ qt ∧ qt ≤ g5 ∧ g5 < y3.heap.size) := ⟨by rw [HQT.out]; exact HBY1.out.size, HG5'.out.1, HG5'.out.2⟩
        have HBW3 : Hid (Below W.heap.size W y3) := HBY1.out.trans (HBY3.out.mono HQY.out.1)
        have HRO := Pl.hid (Pl.reqT_ok ws HWS.out)
        refine (bulksO_walk _ ws y3 HRT3.out (by have := HWS.out; omega) HWL.out).mono ?_
        rintro e y4 ⟨b0, b1, b2, b3, rfl, ho4, hb4⟩
        obtain ⟨bsB, rb4, _, lo4⟩ := ho4
        have HRB4 := Pl.hid rb4
        have HLB4 : Hid (∀ g ∈ bsB, y3.heap.size ≤ g ∧ g < y4.heap.size) := fun g hg => ⟨lo4 g hg, rb4.lt g hg⟩
        have HB34 := Pl.hid hb4
        clear rb4 lo4 hb4
        obtain ⟨p16, hp16⟩ : ∃ p, p = y4.heap.size := ⟨_, rfl⟩
        have HP16 := Pl.hid hp16
        go_wp2_with (refine Mm.wp_store4 _ rfl _ _ rfl y4.heap.size _ _ _ _ _ _ (heap_alloc_new y4 _) rfl rfl rfl (Mm.RepX.one ⟨_, HRB4.out⟩) ?_; intro y5 hwy5 hzy5 hgy5; rw [← hp16] at hwy5 ⊢; have HC16 := Pl.hid hwy5; have HN16 := Pl.hid (Mm.newcell4 hgy5); have k0 := Mm.cell_of hwy5 (i := 0) rfl; have k1 := Mm.cell_of hwy5 (i := 1) rfl; have k2 := Mm.cell_of hwy5 (i := 2) rfl; have k3 := Mm.cell_of hwy5 (i := 3) rfl; clear hwy5 hgy5 hzy5 hp16; clear k0 k1 k2 k3)
        have HB35 : Hid (Below y3.heap.size y3 y5) := HB34.out.trans (HN16.out.mono HB34.out.size)
        have HBW5 : Hid (Below W.heap.size W y5) := HBW3.out.trans (HB35.out.mono HBW3.out.size)
        refine (requestO_walk _ ws W y5 HT.out HBW5.out (HRT3.out.below HB35.out) HWS.out HWL.out).mono ?_
        rintro e y6 ⟨vc6, rfl, ho6, hb6⟩
        obtain ⟨R, hR⟩ : ∃ R, R = Pl.reqE ws := ⟨_, rfl⟩
        obtain ⟨N, hN⟩ : ∃ N, N = R.length := ⟨_, rfl⟩
        rw [← hR] at ho6
        obtain ⟨a6, q6, rfl, _⟩ := ho6.val
        rw [← hN] at ho6 ⊢
        have hN16 : N ≤ 16777216 := by rw [hN, hR]; exact Pl.reqE_le ws HWS.out
        have HRR := Pl.hid hR
        have HNN := Pl.hid hN
        have HOC := Pl.hid ho6
        have HB56 := Pl.hid hb6
        have HBW6 : Hid (Below W.heap.size W y6) := HBW5.out.trans (hb6.mono HBW5.out.size)
        clear ho6 hb6 hR hN
        go_wp2_with fail
        refine (rbulksO_walk _ ws y6 (HRT.out.below HBW6.out) (by have := HWS.out; omega) HWL.out).mono ?_
        rintro e y7 ⟨e0, e1, e2, e3, rfl, ho7, hb7⟩
        obtain ⟨bsD, rb7, _, lo7⟩ := ho7
        have HRB7 := Pl.hid rb7
        have HLB7 : Hid (∀ g ∈ bsD, y6.heap.size ≤ g ∧ g < y7.heap.size) := fun g hg => ⟨lo7 g hg, rb7.lt g hg⟩
        have HB67 := Pl.hid hb7
        clear rb7 lo7 hb7
        obtain ⟨p18, hp18⟩ : ∃ p, p = y7.heap.size := ⟨_, rfl⟩
        have HP18 := Pl.hid hp18
        go_wp2_with (refine Mm.wp_store4 _ rfl _ _ rfl y7.heap.size _ _ _ _ _ _ (heap_alloc_new y7 _) rfl rfl rfl (Mm.RepX.one ⟨_, HRB7.out⟩) ?_; intro y8 hwy8 hzy8 hgy8; rw [← hp18] at hwy8 ⊢; have HC18 := Pl.hid hwy8; have HN18 := Pl.hid (Mm.newcell4 hgy8); have k0 := Mm.cell_of hwy8 (i := 0) rfl; have k1 := Mm.cell_of hwy8 (i := 1) rfl; have k2 := Mm.cell_of hwy8 (i := 2) rfl; have k3 := Mm.cell_of hwy8 (i := 3) rfl; clear hwy8 hgy8 hzy8 hp18; clear k0 k1 k2 k3)
        have HB68 : Hid (Below y6.heap.size y6 y8) := HB67.out.trans (HN18.out.mono HB67.out.size)
        have HBW8 : Hid (Below W.heap.size W y8) := HBW6.out.trans (HB68.out.mono HBW6.out.size)
        refine (rrequest_walk _ ws y8 (HRT.out.below HBW8.out) HWS.out HWL.out).mono ?_
        rintro e y9 ⟨vd9, rfl, ho9, hb9⟩
        rw [← HRR.out] at ho9
        obtain ⟨a9, q9, rfl, _⟩ := ho9.val
        rw [← HNN.out] at ho9 ⊢
        have HOD := Pl.hid ho9
        have HB89 := Pl.hid hb9
        clear ho9 hb9
        have SZ : Hid (y3.heap.size ≤ y4.heap.size ∧ y4.heap.size ≤ y5.heap.size ∧ y5.heap.size ≤ y6.heap.size ∧ y6.heap.size ≤ y7.heap.size ∧ y7.heap.size ≤ y8.heap.size ∧ y8.heap.size ≤ y9.heap.size) := ⟨HB34.out.size, HN16.out.size, HB56.out.size, HB67.out.size, HN18.out.size, HB89.out.size⟩
        -- all that stands at y9
        have E89 : Hid (Below y7.heap.size y7 y9) := HN18.out.trans (HB89.out.mono HN18.out.size)
        have E69 : Hid (Below y6.heap.size y6 y9) := HB68.out.trans (HB89.out.mono HB68.out.size)
        have E59 : Hid (Below y5.heap.size y5 y9) := HB56.out.trans (E69.out.mono HB56.out.size)
        have E49 : Hid (Below y4.heap.size y4 y9) := HN16.out.trans (E59.out.mono HN16.out.size)
        have E39 : Hid (Below y3.heap.size y3 y9) := HB34.out.trans (E49.out.mono HB34.out.size)
        have HBW9 : Hid (Below W.heap.size W y9) := HBW3.out.trans (E39.out.mono HBW3.out.size)
        have HB9 : Hid (Mm.RepB y9 (Pl.reqT ws) [b0, b1, b2, b3] bsB) := HRB4.out.keep fun g hg => E49.out.block g (HLB4.out g hg).2
        have HD9 : Hid (Mm.RepB y9 (Pl.reqT ws) [e0, e1, e2, e3] bsD) := HRB7.out.keep fun g hg => E89.out.block g (HLB7.out g hg).2
        have HC16' : Hid (y9.heap[p16]? = some (.cells #[b0, b1, b2, b3] 31 (0, 0))) := (E59.out.block p16 (Array.getElem?_eq_some_iff.1 HC16.out).1).trans HC16.out
        have HC18' : Hid (y9.heap[p18]? = some (.cells #[e0, e1, e2, e3] 31 (0, 0))) := (HB89.out.block p18 (Array.getElem?_eq_some_iff.1 HC18.out).1).trans HC18.out
        have HOC9 : Hid (Mm.OwnB y9 y5.heap.size (.slice a6 N q6) R) := HOC.out.rng fun g _ h => E69.out.block g h
        have k0 := Mm.cell_of HC16'.out (i := 0) rfl
        have k1 := Mm.cell_of HC16'.out (i := 1) rfl
        have k2 := Mm.cell_of HC16'.out (i := 2) rfl
        have k3 := Mm.cell_of HC16'.out (i := 3) rfl
        have j0 := Mm.cell_of HC18'.out (i := 0) rfl
        have j1 := Mm.cell_of HC18'.out (i := 1) rfl
        have j2 := Mm.cell_of HC18'.out (i := 2) rfl
        have j3 := Mm.cell_of HC18'.out (i := 3) rfl
        go_wp2_with fail
        refine (same_tree y9 _ HRO.out.2.2.2.2.1 _ _ _ _ _ _ _ _ ⟨_, HB9.out⟩ ⟨_, HD9.out⟩ y9 (Below.refl _ _)).mono ?_
        rintro e z1 ⟨rfl, hb⟩
        have HZ1 := Pl.hid hb
        clear hb k0 k1 k2 k3 j0 j1 j2 j3
        go_wp2_with fail
        refine (same16_eq _ _ R z1 (by have := HNN.out; omega) (HOC9.out.bytesR.below HZ1.out) (HOD.out.bytesR.below HZ1.out)).mono ?_
        rintro e z2 ⟨rfl, hb⟩
        have HZ2 := Pl.hid (HZ1.out.trans (hb.mono HZ1.out.size))
        clear hb
        go_wp2_with fail
        have HFAR : Hid (g5 < y3.heap.size ∧ W.heap.size ≤ g5 ∧ g5 < y9.heap.size) := ⟨HQY.out.2.2, Nat.le_trans HQY.out.1 HQY.out.2.1, by have := HQY.out.2.2; have := SZ.out; omega⟩
        obtain ⟨cu0, hcu0, hcs0, hce0⟩ := Mm.own_cur HO3.out
        have HCU0 := Pl.hid (((E39.out.trans (HZ2.out.mono E39.out.size)).block g5 HFAR.out.1).trans hcu0)
        have HCE0 : Hid (M ≤ cu0.size ∧ ∀ j x, ws[j]? = some x → cu0[j]? = some (Value.string (Pl.B x))) := ⟨hcs0, fun j x hx => by
          have hj : j < ws.length := (List.getElem?_eq_some_iff.1 hx).1
          rw [hce0 j (by rw [HM.out]; exact hj)]
          simp [Mm.strsV, hx]⟩
        clear hcu0 hcs0 hce0
        go_loopw [130] (fun iv wr => ∃ (i : Nat) (cur : Array Value), iv = .int .i64 i ∧ i ≤ M ∧ Hid (wr.heap[g5]? = some (.cells cur 9 (0, 0))) ∧ Hid (M ≤ cur.size ∧ ∀ j x, i ≤ j → ws[j]? = some x → cur[j]? = some (Value.string (Pl.B x))) ∧ Hid (y9.grownBy wr (some g5))) (fun iv _ => M - (intOf iv).toNat)
        case atStart => exact ⟨0, cu0, rfl, Nat.zero_le _, HCU0.out, ⟨HCE0.out.1, fun j x _ h => HCE0.out.2 j x h⟩, Mm.grown_below HZ2.out⟩
        case round =>
          obtain ⟨i, cu, rfl, hi, HH, HC, HG⟩ := hrel
          rcases Nat.lt_or_ge i M with hlt | hge
          · have hlw : i < ws.length := by rw [← HM.out]; exact hlt
            obtain ⟨tg, tf, hta, hcell⟩ : ∃ g o, ta = some ⟨g, o, none⟩ ∧ W.cell? ⟨g, o + i, none⟩ = some (.string (Pl.B (ws[i]'hlw))) := by
              obtain ⟨a, c, e, _, hx⟩ := HRT.out
              injection e with e1 _ _
              subst e1
              obtain ⟨g, o, e, hx⟩ := hx (by omega)
              exact ⟨g, o, e, hx i _ (List.getElem?_eq_getElem hlw)⟩
            subst hta
            have HBWr : Hid (Below W.heap.size W wr) := HBW9.out.grown HG.out HBW9.out.size (fun k hk => by injection hk with hk; have := HFAR.out; omega)
            have c1 : wr.cell? ⟨tg, tf + i, none⟩ = some (.string (Pl.B (ws[i]'hlw))) := (HBWr.out.cell (p := ⟨tg, tf + i, none⟩) (World.block_lt_of_cell? _ _ hcell)).trans hcell
            have c2 : wr.cell? ⟨g5, i, none⟩ = some (.string (Pl.B (ws[i]'hlw))) := Mm.cell_of HH.out (HC.out.2 i _ (Nat.le_refl _) (List.getElem?_eq_getElem hlw))
            obtain ⟨X, hX⟩ : ∃ X, X = Pl.B (ws[i]'hlw) := ⟨_, rfl⟩
            rw [← hX] at c1 c2
            have f2 := Mm.frozen_of (i := i) HH.out
            clear hX hcell
            have HH7 := Pl.hid (Mm.heap_set HH.out i (.string ⟨#[111, 116, 104, 101, 114]⟩))
            have HG7 := Pl.hid (Mm.grown_set wr g5 i (.string ⟨#[111, 116, 104, 101, 114]⟩))
            have g1 : (0 : Int) ≤ (i : Int) := by omega
            have g2 : (i : Int) < (M : Int) := by omega
            go_wp2_with fail
            go_region
            all_goals
              go_wp2_with fail
              refine ⟨⟨i + 1, _, by go_num, hlt, HH7.out, ?_, ?_⟩, by simp [intOf]; omega⟩
              · refine ⟨by rw [Array.size_setIfInBounds]; exact HC.out.1, fun j x hj hx => ?_⟩
                rw [Array.getElem?_setIfInBounds_ne (by omega)]
                exact HC.out.2 j x (by omega) hx
              · have h := Mm.grown_step HG.out HG7.out (fun k hk => .inl hk.symm)
                exact ⟨h.os, h.tape, h.output, h.size, h.block⟩
          · obtain rfl : M = i := by omega
            go_wp2_with fail
            have HBWr : Hid (Below W.heap.size W wr) := HBW9.out.grown HG.out HBW9.out.size (fun k hk => by injection hk with hk; have := HFAR.out; omega)
            refine (requestO_walk _ ws W wr HT.out HBWr.out (HRT.out.below HBWr.out) HWS.out HWL.out).mono ?_
            rintro e z3 ⟨ve, rfl, hoe, hbe⟩
            rw [← HRR.out] at hoe
            obtain ⟨ae, qe, rfl, _⟩ := hoe.val
            rw [← HNN.out] at hoe ⊢
            have HOE := Pl.hid hoe
            have HBE := Pl.hid hbe
            have S93 : Hid (y9.heap.size ≤ wr.heap.size ∧ wr.heap.size ≤ z3.heap.size) := ⟨HG.out.size, hbe.size⟩
            clear hoe hbe
            have LC : Hid (∀ k, (Value.slice a6 N q6).ownBlock = some k → y5.heap.size ≤ k ∧ k < y6.heap.size) := fun k hk => HOC.out.lt k hk
            have E93 : Hid (∀ g, g < y9.heap.size → g ≠ g5 → z3.heap[g]? = y9.heap[g]?) := fun g h1 h2 => (HBE.out.block g (by have := S93.out; omega)).trans (HG.out.block g h1 (fun e => by injection e with e; exact h2 e))
            have HOC3 : Hid (Mm.OwnB z3 y5.heap.size (.slice a6 N q6) R) := HOC9.out.keep fun g hg => E93.out g (HOC9.out.lt g hg).2 (by have := (LC.out g hg).1; have := SZ.out; have := HFAR.out; omega)
            go_wp2_with fail
            refine (spoil_walk y5.heap.size _ N z3 (by omega) (by have h := Mm.ShR.of_own HOC3.out; rw [← HNN.out] at h; exact h) (by have := S93.out; have := SZ.out; omega)).mono ?_
            rintro e z4 ⟨⟨u4, rfl⟩, hg4⟩
            have HG4 := Pl.hid hg4
            clear hg4
            have E94 : Hid (∀ g, g < y9.heap.size → g ≠ g5 → (g < y5.heap.size ∨ y6.heap.size ≤ g) → z4.heap[g]? = y9.heap[g]?) := fun g h1 h2 h3 => (HG4.out.block g (by have := S93.out; omega) (fun e => by have := LC.out g e.symm; omega)).trans (E93.out g h1 h2)
            have HP16 : Hid (p16 = y4.heap.size ∧ p16 < y5.heap.size) := ⟨HP16.out, (Array.getElem?_eq_some_iff.1 HC16.out).1⟩
            have HP18 : Hid (p18 = y7.heap.size ∧ p18 < y8.heap.size) := ⟨HP18.out, (Array.getElem?_eq_some_iff.1 HC18.out).1⟩
            have HB4z : Hid (Mm.RepB z4 (Pl.reqT ws) [b0, b1, b2, b3] bsB) := HB9.out.keep fun g hg => E94.out g (HB9.out.lt g hg) (by have := HLB4.out g hg; have := HFAR.out; omega) (.inl (by have := HLB4.out g hg; have := SZ.out; omega))
            have HD4z : Hid (Mm.RepB z4 (Pl.reqT ws) [e0, e1, e2, e3] bsD) := HD9.out.keep fun g hg => E94.out g (HD9.out.lt g hg) (by have := HLB7.out g hg; have := SZ.out; have := HFAR.out; omega) (.inr (HLB7.out g hg).1)
            have C16 := Pl.hid ((E94.out p16 (by have := HP16.out; have := SZ.out; omega) (by have := HP16.out; have := SZ.out; have := HFAR.out; omega) (.inl HP16.out.2)).trans HC16'.out)
            have C18 := Pl.hid ((E94.out p18 (by have := HP18.out; have := SZ.out; omega) (by have := HP18.out; have := SZ.out; have := HFAR.out; omega) (.inr (by have := HP18.out; have := SZ.out; omega))).trans HC18'.out)
            have k0 := Mm.cell_of C16.out (i := 0) rfl
            have k1 := Mm.cell_of C16.out (i := 1) rfl
            have k2 := Mm.cell_of C16.out (i := 2) rfl
            have k3 := Mm.cell_of C16.out (i := 3) rfl
            have j0 := Mm.cell_of C18.out (i := 0) rfl
            have j1 := Mm.cell_of C18.out (i := 1) rfl
            have j2 := Mm.cell_of C18.out (i := 2) rfl
            have j3 := Mm.cell_of C18.out (i := 3) rfl
            go_wp2_with fail
            refine (same_tree z4 _ HRO.out.2.2.2.2.1 _ _ _ _ _ _ _ _ ⟨_, HB4z.out⟩ ⟨_, HD4z.out⟩ z4 (Below.refl _ _)).mono ?_
            rintro e z5 ⟨rfl, hb⟩
            have HZ5 := Pl.hid hb
            clear hb k0 k1 k2 k3 j0 j1 j2 j3
            have HOE4 : Hid (Mm.OwnB z4 wr.heap.size (.slice ae N qe) R) := HOE.out.keep fun g hg => HG4.out.block g (HOE.out.lt g hg).2 (fun e => by have := LC.out g e.symm; have := (HOE.out.lt g hg).1; have := S93.out; have := SZ.out; omega)
            have HOD4 : Hid (Mm.OwnB z4 y8.heap.size (.slice a9 N q9) R) := HOD.out.keep fun g hg => E94.out g (HOD.out.lt g hg).2 (by have := (HOD.out.lt g hg).1; have := SZ.out; have := HFAR.out; omega) (.inr (by have := (HOD.out.lt g hg).1; have := SZ.out; omega))
            go_wp2_with fail
            refine (same16_eq _ _ R z5 (by have := HNN.out; omega) (HOE4.out.bytesR.below HZ5.out) (HOD4.out.bytesR.below HZ5.out)).mono ?_
            rintro e z6 ⟨rfl, hb⟩
            go_wp2_with fail
            go_ret
            have f3 := HBWr.out.trans (HBE.out.mono HBWr.out.size)
            have f4 : Below W.heap.size W z4 := f3.grown HG4.out f3.size (fun k hk => by have := LC.out k hk; have := HBW5.out.size; omega)
            have f5 := f4.trans (HZ5.out.mono f4.size)
            exact ⟨rfl, f5.trans (hb.mono f5.size)⟩
end Go.Proofs.YtakldjdohgmeiaaDoor

namespace Go.Proofs.YtakldjdohgmeiaaDoor.Fr
open Go.ChangeShapes Go.WideShapes Go.ChangeAt Go.RowKit

section
variable {H : Type} {enc : TypeId × Value → H} {P : Program}

theorem trodAll_below (hl : laidOutB P = true) {W W' : World} (hb : Below W.heap.size W W') :
    ∀ {ts : List TypeId} {vs : List Value} {ds : List (DataW H)} {ps : List MemPlace}, (∀ t ∈ ts, P.readableRec t = true ∧ t < P.types.size) →
      DataW.TrodAll enc P W 0 (fun _ => true) true ts vs ds ps → DataW.TrodAll enc P W' 0 (fun b => decide (b < W.heap.size)) true ts vs ds ps
  | [], [], [], _, _, h => h
  | t :: ts, v :: vs, d :: ds, ps, hr, h => by
    obtain ⟨p, q, h1, h2, rfl⟩ := h
    have hlt : ∀ x ∈ p, x.block < W.heap.size := by
      obtain ⟨m, hm⟩ := h1
      exact DataW.trod_lt m _ _ _ hm
    exact ⟨p, q, Below.trod hl (hr t (by simp)).1 (hr t (by simp)).2 h1 hb hlt, trodAll_below hl hb (fun t' ht' => hr t' (by simp [ht'])) h2, rfl⟩
  | [], _ :: _, _, _, _, h => h.elim
  | [], [], _ :: _, _, _, h => h.elim
  | _ :: _, [], _, _, _, h => h.elim
  | _ :: _, _ :: _, [], _, _, h => h.elim

theorem trodAll_length {W : World} {base : Nat} {sp : Nat → Bool} {held : Bool} :
    ∀ {ts : List TypeId} {vs : List Value} {ds : List (DataW H)} {ps : List MemPlace}, DataW.TrodAll enc P W base sp held ts vs ds ps → ds.length = ts.length
  | [], [], [], _, _ => rfl
  | t :: ts, v :: vs, d :: ds, ps, h => by
    obtain ⟨p, q, _, h2, _⟩ := h
    simp [trodAll_length h2]
  | [], _ :: _, _, _, h => h.elim
  | [], [], _ :: _, _, h => h.elim
  | _ :: _, [], _, _, h => h.elim
  | _ :: _, _ :: _, [], _, h => h.elim

theorem post_true {f : Func} {s : ChangeSpec} {W W' : World} {args : Array Value} {ds gs : List (DataW H)} {before : List MemPlace} {tb : TypeId} (hl : laidOutB P = true)
    (hts : ∀ t ∈ f.params.toList, P.readableRec t = true ∧ t < P.types.size) (hvars : s.vars = []) (hW : DataW.Whole enc P f.params.toList s.vars false W args.toList ds gs before)
    (hb : Below W.heap.size W W') (hres : f.resultTypes = #[tb]) (hub : P.underlying tb = some .bool) (hfn : s.fn H (ds ++ gs) = { results := [.lit (.bool true)], args := ds }) :
    s.post enc P f false true false false W args (.bool true) W' := by
  have hW' := hW
  obtain ⟨p, q, h1, h2, rfl, hz, ha⟩ := hW
  rw [hvars] at h2
  obtain ⟨rfl, rfl⟩ := trodVars_none h2
  refine ⟨ds, [], p ++ [], [], p, [], hW', ?_, ?_, ?_, hb.frame _, fun h => by cases h⟩
  · rw [hfn, hres]
    exact trodAll_mk1 (shut_bool hub _)
  · rw [hfn]
    exact trodAll_below hl hb hts h1
  · rw [hfn, hvars]
    rfl
end

theorem str_size {a : ByteArray} (h : a.data.toList.length ≤ reachBytes) : a.size ≤ 140737488351232 := by
  rw [Array.length_toList] at h
  exact h

theorem lifted {H : Type} {enc : TypeId × Value → H} {C : Checked} {os : Os} {f : FuncId} {fn : Func} {s : OpenSpec} {F : Stop.Interp} {laid : List (String × DataW Unit)} {tb : TypeId}
    (own : ownKnob C.prog.godebug = none) (started : os.Started) (noInit : C.prog.inits.idxOf? f = none) (hfn : C.prog.funcs[f]? = some fn)
    (witness : ∃ (w : World) (tape : Tape) (i : Input), w.os = os ∧ (w.forCall tape i).Shaped C.prog ∧ i.vars = [] ∧ Input.okWide C.prog (w.forCall tape i) .any w.heap.size f i ∧
      s.preRow enc C.prog fn [] false laid (w.forCall tape i).memory i.args ∧ ({} : Assume).holds C.prog (lone (Frame.enter C.prog f i.args .normal) [] (w.forCall tape i)))
    (hl : laidOutB C.prog = true) (hts : (fn.params.toList.all fun t => C.prog.readableRec t && decide (t < C.prog.types.size)) = true) (hvars : s.vars = [])
    (hres : fn.resultTypes = #[tb]) (hub : C.prog.underlying tb = some .bool)
    (hspec : ∀ ds : List (DataW H), ds.length = fn.params.toList.length → (s.at F).fn H ds = { results := [.lit (.bool true)], args := ds })
    (walk : ∀ (W : World) (base : Nat) (args : Array Value) (ds : List (DataW H)) (before : List MemPlace),
      (∀ (j : Nat) t v, fn.params[j]? = some t → args[j]? = some v → Value.okWide C.prog W .any base t v) →
      DataW.TrodAll enc C.prog W 0 (fun _ => true) true fn.params.toList args.toList ds before → W.noneFrozen before →
      (∀ k, s.cond = some k → k H ds = true) →
      (DataW.weightsEach C.prog fn.params.toList ds).all (· ≤ reachBytes) = true →
      laidMetH C.prog laid W → W.ShapedOpen C.prog →
      Calls C.prog f args W fun e W' => e = .returned (.bool true) ∧ Below W.heap.size W W') :
    ReturnsInHanded {} C os f .any (s.preRow enc C.prog fn [] false laid) ((s.at F).post enc C.prog fn false true false false) := by
  have hts' : ∀ t ∈ fn.params.toList, C.prog.readableRec t = true ∧ t < C.prog.types.size := by
    intro t ht
    have := List.all_eq_true.1 hts t ht
    simpa using this
  refine returnsInHanded_of_row own started noInit hfn witness ?_
  intro W base args ds gs before hval hW _ hk hsz hL hsh _
  have hW0 := hW
  obtain ⟨p, q, h1, h2, rfl, hz, ha⟩ := hW
  rw [hvars] at h2
  obtain ⟨rfl, rfl⟩ := trodVars_none h2
  have hvt : s.bare.plain.varTypes C.prog = [] := by
    show s.vars.filterMap _ = []
    rw [hvars]
    rfl
  rw [hvt] at hsz
  simp only [List.append_nil] at hk hsz hz
  refine (walk W base args ds p hval h1 hz hk hsz hL hsh).mono fun e W' ⟨he, hb⟩ => ?_
  subst he
  refine ⟨_, rfl, ?_⟩
  exact post_true hl hts' hvars hW0 hb hres hub (by rw [List.append_nil]; exact hspec ds (trodAll_length h1))
end Go.Proofs.YtakldjdohgmeiaaDoor.Fr

namespace Go.Proofs.YtakldjdohgmeiaaDoor.Fr
open Go.ChangeShapes Go.WideShapes Go.ChangeAt Go.RowKit
set_option maxRecDepth 100000

theorem witness_shaped {H : Type} {enc : TypeId × Value → H} {C : Checked} {os : Os} {f : FuncId} {fn : Func} {s : OpenSpec} {conds : List PathCond} {apart : Bool} {laid : List (String × DataW Unit)} (w0 : World) (args : Array Value) (hos : w0.os = os)
    (hsh : (w0.forCall (fun _ _ => 0) ⟨#[], args, []⟩).Shaped C.prog)
    (hok : Input.okWideB C.prog (w0.forCall (fun _ _ => 0) ⟨#[], args, []⟩) f ⟨#[], args, []⟩ = true)
    (hrow : s.preRow enc C.prog fn conds apart laid (w0.forCall (fun _ _ => 0) ⟨#[], args, []⟩).memory args) :
    ∃ (w : World) (tape : Tape) (i : Input), w.os = os ∧ (w.forCall tape i).Shaped C.prog ∧ i.vars = [] ∧ Input.okWide C.prog (w.forCall tape i) .any w.heap.size f i ∧
      s.preRow enc C.prog fn conds apart laid (w.forCall tape i).memory i.args ∧ ({} : Assume).holds C.prog (lone (Frame.enter C.prog f i.args .normal) [] (w.forCall tape i)) :=
  ⟨w0, fun _ _ => 0, ⟨#[], args, []⟩, hos, hsh, (Input.okWide_of_okWideB (base := 0) hok).1, (Input.okWide_of_okWideB hok).2, hrow, by
    simp only [Assume.holds]
    exact ⟨by simp, by simp, fun _ => Modest.zero, by simp, by simp⟩⟩

theorem gPow : Tryd.prog.globalNamed "internal/strconv.uint64pow10" = some 9 := by kernel_rfl
theorem gPowType : (Tryd.prog.globals[9]?).map (·.type) = some 166 := by kernel_rfl
theorem cellsPow : Tryd.prog.cellsOf 166 = 20 := by kernel_rfl
theorem cellsU64 : Tryd.prog.cellsOf 141 = 1 := by kernel_rfl
/-- the table of powers, third on every list -/
theorem tab {W : World} {x y : String × DataW Unit} {rest : List (String × DataW Unit)} (h : laidMet Tryd.prog (x :: y :: ("internal/strconv.uint64pow10", Rows.laid_internal_strconv_uint64pow10) :: rest) W) : Mm.Tab W :=
  Mm.tab_of (Lib.tabIs_of_head (rest := rest) gPow gPowType Tryd.underlying166 Tryd.underlying141 cellsU64 cellsPow h.tail.tail)

theorem gRange : Tryd.prog.globalNamed "strconv.ErrRange" = some 11 := by kernel_rfl
theorem gRangeType : (Tryd.prog.globals[11]?).map (·.type) = some 53 := by kernel_rfl
theorem gSyntax : Tryd.prog.globalNamed "strconv.ErrSyntax" = some 10 := by kernel_rfl
theorem gSyntaxType : (Tryd.prog.globals[10]?).map (·.type) = some 53 := by kernel_rfl
theorem starErr : "*" ++ "errors.errorString" = "*errors.errorString" := by decide
theorem rowErr (u : TypeId) (h : Tryd.prog.typeName? 3 u = some "*errors.errorString") : u = 177 :=
  typeName_ptr_named (nm := "errors.errorString") (by rw [starErr]; kernel_rfl) (by kernel_rfl) (by decide) u (by rw [starErr]; exact h)
theorem cellsErr : Tryd.prog.cellsOf 179 = 1 := by kernel_rfl
theorem cellsStr : Tryd.prog.cellsOf 9 = 1 := by kernel_rfl
/-- the two errors of the library -/
theorem errs {W : World} {r r' : List (String × DataW Unit)} (h1 : laidMet Tryd.prog (("strconv.ErrRange", Rows.laid_strconv_ErrRange) :: r) W) (h2 : laidMet Tryd.prog (("strconv.ErrSyntax", Rows.laid_strconv_ErrSyntax) :: r') W) : Mm.Errs W := by
  obtain ⟨a1, s1, v1, _⟩ := laid_sentinel h1 gRange gRangeType Tryd.underlying53 rowErr Tryd.underlying177 Tryd.underlying179 rfl rfl Tryd.underlying9 cellsErr cellsStr
  obtain ⟨a2, s2, v2, _⟩ := laid_sentinel h2 gSyntax gSyntaxType Tryd.underlying53 rowErr Tryd.underlying177 Tryd.underlying179 rfl rfl Tryd.underlying9 cellsErr cellsStr
  exact Mm.errs_of ⟨_, _, v2⟩ ⟨_, _, v1⟩
end Go.Proofs.YtakldjdohgmeiaaDoor.Fr

namespace Go.Proofs.YtakldjdohgmeiaaDoor.Arg
open Go.ChangeShapes Go.WideShapes Go.ChangeAt Go.RowKit
open Mm Pl
set_option maxRecDepth 20000

theorem addM (b o n : Nat) : (⟨b, o, none⟩ : Addr).add n = ⟨b, o + n, none⟩ := by
  unfold Addr.add; split <;> simp_all
theorem cellsNode : Tryd.prog.cellsOf 83 = 4 := by kernel_rfl
theorem cellsInt : Tryd.prog.cellsOf 3 = 1 := by kernel_rfl
theorem cellsI64 : Tryd.prog.cellsOf 2 = 1 := by kernel_rfl
/-- one node -/
theorem node {H : Type} {enc : TypeId × Value → H} {W : World} {fuel : Nat} {cs : List Value} {x : DataW H × List MemPlace}
    (h : DataW.trod enc Tryd.prog W 0 (fun _ => true) true fuel 83 cs = some x) : ∃ nd : Nd, cs = [.int .i64 nd.k, .string nd.s, .int .i64 nd.n, .int .i64 nd.c] ∧ nd.s.size + 25 ≤ 5 * Rows.uptoBulk x.1 ∧ In64 nd.n := by
  obtain ⟨y0, y1, y2, y3, n, rfl, hl, h0, h1, h2, h3⟩ := Go.Joins.trod_struct4 Tryd.underlying83 h
  rw [cellsNode] at hl
  obtain ⟨c0, c1, c2, c3, rfl⟩ : ∃ c0 c1 c2 c3, cs = [c0, c1, c2, c3] := by
    match cs, hl with
    | [c0, c1, c2, c3], _ => exact ⟨c0, c1, c2, c3, rfl⟩
  simp only [cellsInt, Fr.cellsStr, cellsI64] at h0 h1 h2 h3
  obtain ⟨k, e0, f0, _⟩ := DataW.trod_int Tryd.underlying3 h0
  obtain ⟨s, e1, f1, _⟩ := DataW.trod_string Tryd.underlying9 h1
  obtain ⟨m, e2, f2, w2⟩ := DataW.trod_int Tryd.underlying2 h2
  obtain ⟨c, e3, f3, _⟩ := DataW.trod_int Tryd.underlying3 h3
  simp at e0 e1 e2 e3
  subst e0 e1 e2 e3
  refine ⟨⟨k, s, m, c⟩, rfl, ?_, bounds_i64 w2⟩
  rw [f0, f1, f2, f3]
  simp only [Rows.uptoBulk, Rows.uptoBulkAll, Array.length_toList]
  have : s.data.size = s.size := rfl
  omega
theorem ndW_bulk {H : Type} : ∀ (l : List Nd) (ds : List (DataW H)), l.length = ds.length → (∀ i (h1 : i < l.length) (h2 : i < ds.length), (l[i]'h1).s.size + 25 ≤ 5 * Rows.uptoBulk (ds[i]'h2)) → ndW l ≤ 5 * Rows.uptoBulkAll ds
  | [], _, _, _ => by simp [ndW]
  | x :: l, [], h, _ => by simp at h
  | x :: l, d :: ds, h, hb => by
    have h1 := hb 0 (by simp) (by simp)
    have h2 := ndW_bulk l ds (by simpa using h) fun i a b => hb (i + 1) (by simpa using a) (by simpa using b)
    simp only [List.getElem_cons_zero] at h1
    simp only [ndW, Rows.uptoBulkAll]
    omega
/-- nodes that came in -/
theorem nodes {H : Type} {enc : TypeId × Value → H} {W : World} {fuel : Nat} {v : Value} {x : DataW H × List MemPlace}
    (h : DataW.trod enc Tryd.prog W 0 (fun _ => true) true fuel 39 [v] = some x) : ∃ l : List Nd, NodesV W v l ∧ ndW l ≤ 5 * Rows.uptoBulk x.1 ∧ ∀ nd ∈ l, In64 nd.n := by
  rcases Go.Deep.open_slice Tryd.underlying39 h with ⟨e3, _⟩ | ⟨ad, len, cap, m, n, D, Pq, e3, _, hlc, hcap, hm, hxx, hx⟩
  · obtain rfl := List.cons.inj e3 |>.1
    exact ⟨[], ⟨none, 0, rfl, .inl rfl⟩, by simp [ndW], fun nd h => by cases h⟩
  · obtain rfl := List.cons.inj e3 |>.1
    have hlm : len ≤ m := by rw [hm]; split <;> omega
    rw [cellsNode] at hx
    have key : ∀ i, i < len → ∃ nd : Nd, (∀ j, j < 4 → W.cell? ((ad.add (i * 4)).add j) = [Value.int .i64 nd.k, .string nd.s, .int .i64 nd.n, .int .i64 nd.c][j]?) ∧ nd.s.size + 25 ≤ 5 * Rows.uptoBulk (D i) ∧ In64 nd.n := by
      intro i hi
      obtain ⟨cs, hc, hd⟩ := hx i (by omega)
      obtain ⟨nd, h1, h2, h3⟩ := node hd
      obtain ⟨_, _, h4⟩ := World.cells?_some hc
      rw [h1] at h4
      exact ⟨nd, h4, h2, h3⟩
    obtain ⟨F, hF⟩ : ∃ F : Nat → Nd, ∀ i, i < len → (∀ j, j < 4 → W.cell? ((ad.add (i * 4)).add j) = [Value.int .i64 (F i).k, .string (F i).s, .int .i64 (F i).n, .int .i64 (F i).c][j]?) ∧ (F i).s.size + 25 ≤ 5 * Rows.uptoBulk (D i) ∧ In64 (F i).n := by
      refine ⟨fun i => if h : i < len then Classical.choose (key i h) else ⟨0, ⟨#[]⟩, 0, 0⟩, fun i hi => ?_⟩
      have := Classical.choose_spec (key i hi)
      simp only [hi, dif_pos]
      exact this
    refine ⟨(List.range len).map F, ⟨some ad, cap, by simp, ?_⟩, ?_, fun nd hnd => ?_⟩
    · by_cases h0 : len = 0
      · exact .inl (by simp [h0])
      · right
        obtain ⟨ab, ao, sp⟩ := ad
        have hc0 := (hF 0 (by omega)).1 0 (by omega)
        have hsp := World.cell?_spot hc0
        simp only [Addr.add] at hsp
        have hsp' : sp = none := by
          revert hsp
          cases sp <;> simp [Addr.add]
        subst hsp'
        refine ⟨ab, ao, rfl, ?_, fun i hi => ?_⟩
        · have := World.block_lt_of_cell? _ _ hc0
          simpa [addM] using this
        · have hi' : i < len := by simpa using hi
          have hc := (hF i hi').1
          have g0 := hc 0 (by omega)
          have g1 := hc 1 (by omega)
          have g2 := hc 2 (by omega)
          have g3 := hc 3 (by omega)
          rw [addM, addM] at g0 g1 g2 g3
          simp only [List.getElem_map, List.getElem_range]
          exact ⟨by simpa using g0, by simpa using g1, by simpa using g2, by simpa using g3⟩
    · rw [hxx]
      simp only [Rows.uptoBulk]
      have := ndW_bulk ((List.range len).map F) ((List.range len).map D) (by simp) (fun i h1 h2 => by
        have hi' : i < len := by simpa using h1
        simp only [List.getElem_map, List.getElem_range]
        exact (hF i hi').2.1)
      omega
    · obtain ⟨i, hi, rfl⟩ := List.mem_map.1 hnd
      exact (hF i (by simpa using hi)).2.2
end Go.Proofs.YtakldjdohgmeiaaDoor.Arg
