/- pantrylaw16.twin: the same reply, in blocks of its own. Condition: it reads, its weight is small. pantrylaw16.plain: what it makes of a reply. Conditions stand in each law. pantrylaw16.plain of any reply. Conditions stand in each law. pantrylaw16.ReplyBack: the law's walk. Conditions stand in each law. The frame of every law of this seat: if the walk returns true and turns nothing that was there, the law's statement follows. Conditions: what stands in 'lifted': the argument types can be read, one result, a bool. The frame of the laws whose rows list package-level variables: the witness's world, what the list gives. Conditions stand in each law. What an argument of the type []Node lies like in memory, and how great it is under the form's bound. Conditions stand in each law. What arguments of the types []byte, []string lie like in memory, and how great they are under the form's bound; utf8 Conditions stand in each law. -/
import Derived.Test.YtakldjdohgmeiaaDoorBuReplyBack4
import Derived.BigRegion
import Derived.Deep.RegionLaw
import Derived.Test.YtakldjdohgmeiaaDoorBuReplyBack14
import Derived.Test.YtakldjdohgmeiaaDoorBuReplyBack12
import Derived.Test.YtakldjdohgmeiaaDoorBuReplyBack2
import Derived.Test.YtakldjdohgmeiaaDoorRows
import Derived.ProofKit
import Derived.OpenShut
import Derived.ChangeOld
import Derived.Below
import Derived.Deep.DeepHandedRow
import Derived.SizedLaws
import Derived.Test.YtakldjdohgmeiaaDoorBuReplyBack7
import Derived.Test.YtakldjdohgmeiaaDoorCards
import Derived.Test.YtakldjdohgmeiaaDoorTie
import Derived.Lay
import Derived.MakeChecks
import Derived.Stop.LaidErr
import Derived.Deep.Slices
import Derived.Lib.SmallJoins
import Derived.Test.YtakldjdohgmeiaaDoorBuReplyBack10
import Derived.Test.YtakldjdohgmeiaaDoorBuReplyBack9
namespace Go.Proofs.YtakldjdohgmeiaaDoor
open Go.RowKit
set_option maxRecDepth 20000

set_option maxHeartbeats 4000000 in
theorem twin_walk (W : World) : ∀ (t : RT), t.sz ≤ 1073741824 → ∀ (c0 c1 c2 c3 : Value), Mm.RepX W t [c0, c1, c2, c3] → ∀ w : World, Below W.heap.size W w →
    Calls Tryd.prog 19 #[.agg #[c0, c1, c2, c3]] w fun e w' => ∃ (d0 d1 d2 d3 : Value), e = .returned (.agg #[d0, d1, d2, d3]) ∧ Mm.OwnT w' w.heap.size t [d0, d1, d2, d3] ∧ Below w.heap.size w w' := by
  intro t
  induction t using RT.ind with
  | h k s n l ih =>
    intro hsz c0 c1 c2 c3 hx w hb
    obtain ⟨a, cap, hcs, hel⟩ := hx.open
    simp only [List.cons.injEq, and_true] at hcs
    obtain ⟨rfl, rfl, rfl, rfl⟩ := hcs
    rw [RT.sz_mk] at hsz
    have HL : Hid (l.length < 1073741824) := by have := RT.szL_len l; show _ < _; omega
    have HSZ := Pl.hid hsz
    have IH := Pl.hid ih
    have HB := Pl.hid hb
    have HEL := Pl.hid hel
    clear hb ih hel hx hsz
    go_enter Tryd.func19, Tryd.ntmps19
    go_wp2_with fail
    generalize hw3 : World.alloc _ _ = w3
    obtain ⟨p, hp⟩ : ∃ p, p = w.heap.size + 1 + 1 := ⟨_, rfl⟩
    obtain ⟨r, hr⟩ : ∃ r, r = w.heap.size + 1 := ⟨_, rfl⟩
    have HP3 : Hid (w3.heap[p]? = some (.cells #[.int .i64 k, .string s, .int .i64 n, .slice none 0 0] 31 (0, 0))) := by
      show _ = _
      rw [← hw3, hp]
      have := heap_alloc_new ((w.alloc (.cells #[.int .i64 k, .string s, .int .i64 n, .slice a l.length cap] 31)).alloc (.cells #[.int .i64 0, .string ⟨#[]⟩, .int .i64 0, .slice none 0 0] 31)) (.cells #[.int .i64 k, .string s, .int .i64 n, .slice none 0 0] 31)
      simpa using this
    have HR3 : Hid (w3.heap[r]? = some (.cells #[.int .i64 0, .string ⟨#[]⟩, .int .i64 0, .slice none 0 0] 31 (0, 0))) := by
      show _ = _
      rw [← hw3, hr, Below.heap_alloc _ _ _ (by simp)]
      have := heap_alloc_new (w.alloc (.cells #[.int .i64 k, .string s, .int .i64 n, .slice a l.length cap] 31)) (.cells #[.int .i64 0, .string ⟨#[]⟩, .int .i64 0, .slice none 0 0] 31)
      simpa using this
    have HB3 : Hid (Below w.heap.size w w3) := by rw [← hw3]; exact (((Below.refl _ _).alloc (Nat.le_refl _) _).alloc (by simp) _).alloc (by simp; omega) _
    have HS3 : Hid (w3.heap.size = w.heap.size + 3) := by show _ = _; rw [← hw3]; simp
    have HPR : Hid (p = w.heap.size + 2 ∧ r = w.heap.size + 1) := ⟨hp, hr⟩
    obtain ⟨lo, hlo⟩ : ∃ lo, lo = w3.heap.size := ⟨_, rfl⟩
    have HLO : Hid (lo = w.heap.size + 3 ∧ lo = w3.heap.size) := ⟨hlo.trans HS3.out, hlo⟩
    rw [← hp, ← hr]
    clear hw3 hp hr hlo
    go_loopw [11] (fun iv wr => ∃ (i : Nat) (lv : Value), iv = .int .i64 i ∧ i ≤ l.length ∧ Hid (wr.heap[p]? = some (.cells #[.int .i64 k, .string s, .int .i64 n, lv] 31 (0, 0))) ∧
        Hid (wr.heap[r]? = some (.cells #[.int .i64 0, .string ⟨#[]⟩, .int .i64 0, .slice none 0 0] 31 (0, 0))) ∧ Hid (Mm.OwnL wr lo lv (l.take i)) ∧ Hid (Below w.heap.size w wr ∧ lo ≤ wr.heap.size)) (fun iv _ => l.length - (intOf iv).toNat)
    case atStart => exact ⟨0, .slice none 0 0, rfl, Nat.zero_le _, HP3, HR3, Mm.OwnL.nil w3 lo, HB3.out, Nat.le_of_eq HLO.out.2⟩
    case round =>
      obtain ⟨i, lv, rfl, hi, HP, HR, HO, HBr⟩ := hrel
      have e0 := Mm.cell_of HP.out (i := 0) rfl
      have e1 := Mm.cell_of HP.out (i := 1) rfl
      have e2 := Mm.cell_of HP.out (i := 2) rfl
      have e3 := Mm.cell_of HP.out (i := 3) rfl
      rcases Nat.lt_or_ge i l.length with hlt | hge
      · rcases HEL.out with h0 | ⟨b, rfl, hbl, hel⟩
        · omega
        obtain ⟨f0, f1, f2, f3, h0, h1, h2, h3, hrep⟩ := hel i hlt
        have HBW : Hid (Below W.heap.size W wr) := HB.out.trans (HBr.out.1.mono HB.out.size)
        have g0 : wr.cell? ⟨b, i * 4, none⟩ = some f0 := (HBW.out.cell (p := ⟨b, i * 4, none⟩) hbl).trans h0
        have g1 : wr.cell? ⟨b, i * 4 + 1, none⟩ = some f1 := (HBW.out.cell (p := ⟨b, i * 4 + 1, none⟩) hbl).trans h1
        have g2 : wr.cell? ⟨b, i * 4 + 2, none⟩ = some f2 := (HBW.out.cell (p := ⟨b, i * 4 + 2, none⟩) hbl).trans h2
        have g3 : wr.cell? ⟨b, i * 4 + 3, none⟩ = some f3 := (HBW.out.cell (p := ⟨b, i * 4 + 3, none⟩) hbl).trans h3
        have HREP := Pl.hid hrep
        clear h0 h1 h2 h3 hrep hel
        obtain ⟨q, hq⟩ : ∃ q, q = wr.heap.size := ⟨_, rfl⟩
        have HQ := Pl.hid hq
        have HPLT : Hid (p < q ∧ r < q) := ⟨by rw [hq]; exact (Array.getElem?_eq_some_iff.1 HP.out).1, by rw [hq]; exact (Array.getElem?_eq_some_iff.1 HR.out).1⟩
        clear hq e0 e1 e2 e3
        go_wp2_with (refine Mm.wp_store4 _ rfl _ _ rfl wr.heap.size _ _ _ _ _ _ (heap_alloc_new wr _) rfl rfl rfl HREP.out.one ?_; intro w4 hw4 hs4 hg4; have HW4 := Pl.hid hw4; have HG4 := Pl.hid hg4; clear hw4 hs4 hg4)
        rw [HQ.out.symm] at HW4 HG4
        have hq := HQ.out
        have hplt := HPLT.out
        have hlo' := HLO.out
        have hbr := HBr.out.2
        have HPN : Hid (p ≠ q ∧ r ≠ q ∧ p < lo ∧ r < lo ∧ q < w4.heap.size ∧ wr.heap.size = q ∧ lo ≤ q) := by
          have hh := HPR.out
          have hz := HG4.out.size
          have hz' : (wr.alloc (.cells #[.int .i64 0, .string ⟨#[]⟩, .int .i64 0, .slice none 0 0] 31)).heap.size = wr.heap.size + 1 := by simp
          exact ⟨by omega, by omega, by omega, by omega, by omega, by omega, by omega⟩
        have HBw4 : Hid (Below wr.heap.size wr w4) := ((Below.refl _ _).alloc (Nat.le_refl _) _).grown HG4.out (by simp) (fun k hk => by cases hk; exact Nat.le_of_eq HQ.out.symm)
        have HP4 : Hid (w4.heap[p]? = some (.cells #[.int .i64 k, .string s, .int .i64 n, lv] 31 (0, 0))) := (HBw4.out.block p (by omega)).trans HP.out
        have HR4 : Hid (w4.heap[r]? = some (.cells #[.int .i64 0, .string ⟨#[]⟩, .int .i64 0, .slice none 0 0] 31 (0, 0))) := (HBw4.out.block r (by omega)).trans HR.out
        have HLN : Hid ((l.take i).length < 1073741824 ∧ (l[i]'hlt).sz ≤ 1073741824 ∧ l.take i ++ [l[i]'hlt] = l.take (i + 1)) :=
          ⟨by rw [List.length_take]; have := HL.out; omega, by have := RT.szL_mem (List.getElem_mem hlt); have := HSZ.out; omega, by rw [List.take_add_one, List.getElem?_eq_getElem hlt]; rfl⟩
        have ST5 : Hid (∀ (w5 : World) (d0 d1 d2 d3 : Value), Below w4.heap.size w4 w5 → Mm.OwnT w5 w4.heap.size (l[i]'hlt) [d0, d1, d2, d3] → w5.cell? ⟨p, 3, none⟩ = some lv ∧ (w5.alloc (.cells #[d0, d1, d2, d3] 31)).cell? ⟨p, 3, none⟩ = some lv ∧
            Hid (Mm.OwnT w5 wr.heap.size (l[i]'hlt) [d0, d1, d2, d3]) ∧ Hid (Below wr.heap.size wr w5) ∧ Hid (w5.heap[p]? = some (.cells #[.int .i64 k, .string s, .int .i64 n, lv] 31 (0, 0))) ∧ Hid (w5.heap[r]? = some (.cells #[.int .i64 0, .string ⟨#[]⟩, .int .i64 0, .slice none 0 0] 31 (0, 0)))) := fun w5 d0 d1 d2 d3 hb ho => by
          have hn := HPN.out
          have h5 := (hb.block p (by omega)).trans HP4.out
          have c5 := Mm.cell_of h5 (i := 3) (v := lv) rfl
          exact ⟨c5, (World.cell?_alloc_old _ _ _ (by have := World.block_lt_of_cell? _ _ c5; exact Nat.ne_of_lt this)).trans c5, ho.lo (by omega), HBw4.out.trans (hb.mono (by omega)), h5, (hb.block r (by omega)).trans HR4.out⟩
        have ST6 : Hid (∀ (w5 w6 : World), w5.heap[p]? = some (.cells #[.int .i64 k, .string s, .int .i64 n, lv] 31 (0, 0)) → Below lo w5 w6 → w6.cell? ⟨p, 3, none⟩ = some lv ∧ w6.frozen? ⟨p, 3, none⟩ = false) := fun w5 w6 h5 hb => by
          have h6 := (hb.block p HPN.out.2.2.1).trans h5
          exact ⟨Mm.cell_of h6 (i := 3) rfl, Mm.frozen_of h6⟩
        have HBW4 : Hid (Below W.heap.size W w4) := HBW.out.trans (HBw4.out.mono HBW.out.size)
        have p3 := Mm.cell_of HP4.out (i := 3) (v := lv) rfl
        have q0 := Mm.cell_of HW4.out (i := 0) rfl
        have q1 := Mm.cell_of HW4.out (i := 1) rfl
        have q2 := Mm.cell_of HW4.out (i := 2) rfl
        have q3 := Mm.cell_of HW4.out (i := 3) rfl
        rw [← hq]
        clear hq hplt hlo' hbr g0 g1 g2 g3
        go_region_law (first
          | (go_simp; go_at_call 19; (refine (IH.out _ (List.getElem_mem hlt) HLN.out.2.1 f0 f1 f2 f3 HREP.out _ (by first | exact HBW4.out | exact HBW4.out.drew)).mono ?_; rintro e w5 ⟨d0, d1, d2, d3, rfl, ho5, hb5⟩; obtain ⟨p5, p5a, HT5, HB5, HP5, HR5⟩ := ST5.out w5 d0 d1 d2 d3 (Mm.undrew hb5) ho5; clear ho5 hb5))
          | (refine Mm.step_appR _ (by rfl) _ _ (by rfl) wr w5 lo lv (l.take i) (by rfl) HO.out (l[i]'hlt) [d0, d1, d2, d3] HT5.out (by rfl) (by rfl) HB5.out HLN.out.1 HBr.out.2 ?_; intro v6 w6 ho6 hb6 _; obtain ⟨a6, k6, rfl⟩ := ho6.val; obtain ⟨p6, pf6⟩ := ST6.out w5 w6 HP5.out hb6; have HO6 := Pl.hid ho6; have HB6 := Pl.hid hb6; clear ho6 hb6))
        all_goals
          have HV : Hid ((l.take i ++ [l[i]'hlt]).length = min (i + 1) l.length) := by show _ = _; rw [HLN.out.2.2, List.length_take]
          have HO6' : Hid (Mm.OwnL w6 lo (.slice a6 (min (i + 1) l.length) k6) (l.take (i + 1))) := by
            have := HO6.out
            rw [HV.out, HLN.out.2.2] at this
            exact this
          have HP7 := Pl.hid (Mm.heap_set ((HB6.out.block p HPN.out.2.2.1).trans HP5.out) 3 (.slice a6 (min (i + 1) l.length) k6))
          have HG7 := Pl.hid (Mm.grown_set w6 p 3 (.slice a6 (min (i + 1) l.length) k6))
          generalize World.setCell w6 _ _ = w7 at HP7 HG7
          clear p6 pf6 p5 p5a p3 q0 q1 q2 q3 HO6
          have hlen := HL.out
          go_wp2_with fail
          have hn := HPN.out
          have h5z := HB5.out.size
          have h6z := HB6.out.size
          refine ⟨⟨i + 1, _, by go_num, hlt, HP7, ?_, ?_, ?_⟩, by simp [intOf]; omega⟩
          · show _ = _
            rw [HG7.out.block r (by omega) (by intro e; cases e; have := HPR.out; omega), HB6.out.block r (by omega)]
            exact HR5.out
          · exact HO6'.out.keepLo fun g hg hgl => HG7.out.block g hgl (by intro e; cases e; omega)
          · have hlo := HLO.out
            have hpr := HPR.out
            refine ⟨(HBr.out.1.trans (((HB5.out.mono (by omega)).trans (HB6.out.mono (by omega))))).grown HG7.out (by have := HBr.out.1.size; omega) (fun k hk => by cases hk; omega), ?_⟩
            have := HG7.out.size
            omega
      · have hie : i = l.length := by omega
        subst hie
        have HO' : Hid (Mm.OwnL wr lo lv l) := by have := HO.out; rw [List.take_length] at this; exact this
        go_wp2_with (refine Mm.wp_store4 _ rfl _ _ rfl r _ _ _ _ _ _ HR.out rfl rfl rfl (by intro u hu; simp only [List.mem_cons, List.mem_nil_iff, or_false] at hu; rcases hu with rfl | rfl | rfl | rfl <;> first | rfl | exact HO'.out.one.1) ?_; intro wf hwf hsf hgf)
        have HWF := Pl.hid hwf
        have HG := Pl.hid hgf
        clear hwf hsf hgf
        (try simp only [Exit.inBlock, Exit.then])
        refine bodyPost_ret (Mm.res_cell rfl _ wf r _ _ _ _ _ _ rfl HWF.out) rfl ?_
        have hlo := HLO.out
        have hpr := HPR.out
        have hbr := HBr.out.2
        refine ⟨_, _, _, _, rfl, ?_, HBr.out.1.grown HG.out (by omega) (fun k hk => by cases hk; omega)⟩
        refine ((HO'.out.rep k s n).keepLo (fun g hg hgl => HG.out.block g hgl ?_)).lo (by omega)
        intro e
        cases e
        omega
end Go.Proofs.YtakldjdohgmeiaaDoor

namespace Go.Proofs.YtakldjdohgmeiaaDoor
open Go.RowKit
set_option maxRecDepth 20000

/-- what plain does within so many arrays -/
def Mm.PlainC (W : World) (g : Nat) : Prop := ∀ (t : RT), t.sz ≤ 1073741824 → ∀ (c0 c1 c2 c3 : Value), Mm.RepX W t [c0, c1, c2, c3] → ∀ w : World, Below W.heap.size W w →
  Calls Tryd.prog 47 #[.agg #[c0, c1, c2, c3], .int .i64 (8 - (g : Int))] w fun e w' => ∃ (d0 d1 d2 d3 : Value), e = .returned (.agg #[d0, d1, d2, d3]) ∧ Mm.OwnT w' w.heap.size (RT.plainR g t) [d0, d1, d2, d3] ∧ Below w.heap.size w w'

set_option maxHeartbeats 16000000 in
theorem plain_list (W : World) (g : Nat) (hg8 : g + 1 ≤ 8) (IH : Mm.PlainC W g) (k : Int) (s : ByteArray) (n : Int) (l : List RT) (hsz : s.size + 25 + RT.szL l ≤ 1073741824) (c0 c1 c2 c3 : Value) (hx : Mm.RepX W (.mk k s n l) [c0, c1, c2, c3]) (hk : 0 < l.length ∨ k.tmod 7 = 5 ∨ k.tmod 7 = -2) (w : World) (hb : Below W.heap.size W w) :
    Calls Tryd.prog 47 #[.agg #[c0, c1, c2, c3], .int .i64 (8 - ((g + 1 : Nat) : Int))] w fun e w' => ∃ (d0 d1 d2 d3 : Value), e = .returned (.agg #[d0, d1, d2, d3]) ∧ Mm.OwnT w' w.heap.size (.mk 6 ⟨#[]⟩ 0 (l.map (RT.plainR g))) [d0, d1, d2, d3] ∧ Below w.heap.size w w' := by
  obtain ⟨a, cap, hcs, hel⟩ := hx.open
  simp only [List.cons.injEq, and_true] at hcs
  obtain ⟨rfl, rfl, rfl, rfl⟩ := hcs
  have HL : Hid (l.length < 1073741824) := by have := RT.szL_len l; show _ < _; omega
  have HSZ := Pl.hid hsz
  have HIH := Pl.hid IH
  have HB := Pl.hid hb
  have HEL := Pl.hid hel
  obtain ⟨D, hD⟩ : ∃ D : Int, D = 8 - ((g + 1 : Nat) : Int) := ⟨_, rfl⟩
  have HDE : Hid ((8 : Int) - (g : Int) = D + 1) := by show _ = _; omega
  have hDr : 0 ≤ D ∧ D < 8 := by omega
  rw [← hD]
  have hDW : IntKind.i64.wrap (D + 1) = D + 1 := by rw [IntKind.wrap_i64]; omega
  obtain ⟨N, hN⟩ : ∃ N, N = l.length := ⟨_, rfl⟩
  rw [← hN]
  rw [← hN] at hk
  have HN := Pl.hid hN
  obtain ⟨_, _, R1, R2⟩ := RT.kp_tmod k
  obtain ⟨R, hR⟩ : ∃ R, k.tmod 7 = R := ⟨_, rfl⟩
  rw [hR] at hk R1 R2
  clear hb IH hel hx hsz hD hN
  obtain ⟨w1, hw1⟩ : ∃ w1, w.alloc (.cells #[.int .i64 k, .string s, .int .i64 n, .slice a N cap] 31) = w1 := ⟨_, rfl⟩
  obtain ⟨w2, hw2⟩ : ∃ w2, w1.alloc (.cells #[.int .i64 0, .string ⟨#[]⟩, .int .i64 0, .slice none 0 0] 31) = w2 := ⟨_, rfl⟩
  obtain ⟨q, hq⟩ : ∃ q, w.heap.size = q := ⟨_, rfl⟩
  obtain ⟨r, hr⟩ : ∃ r, w1.heap.size = r := ⟨_, rfl⟩
  obtain ⟨o, ho⟩ : ∃ o, w2.heap.size = o := ⟨_, rfl⟩
  have HB2 : Hid (Below w1.heap.size w1 w2) := by rw [← hw2]; exact (Below.refl _ _).alloc (Nat.le_refl _) _
  have HQ1 : Hid (w1.heap[q]? = some (.cells #[.int .i64 k, .string s, .int .i64 n, .slice a N cap] 31 (0, 0))) := by show _ = _; rw [← hw1, ← hq]; exact heap_alloc_new w _
  have HQ2 : Hid (w2.heap[q]? = some (.cells #[.int .i64 k, .string s, .int .i64 n, .slice a N cap] 31 (0, 0))) := (HB2.out.block q (Array.getElem?_eq_some_iff.1 HQ1.out).1).trans HQ1.out
  have HR2 : Hid (w2.heap[r]? = some (.cells #[.int .i64 0, .string ⟨#[]⟩, .int .i64 0, .slice none 0 0] 31 (0, 0))) := by show _ = _; rw [← hw2, ← hr]; exact heap_alloc_new w1 _
  have k0 := Mm.cell_of HQ2.out (i := 0) rfl
  have k1 := Mm.cell_of HQ2.out (i := 1) rfl
  have k2 := Mm.cell_of HQ2.out (i := 2) rfl
  have k3 := Mm.cell_of HQ2.out (i := 3) rfl
  rcases (show (0 < N ∧ R < 0) ∨ (0 < N ∧ ¬ R < 0) ∨ (¬ 0 < N ∧ R = 5) ∨ (¬ 0 < N ∧ R = -2) by omega) with ⟨hN0, hR0⟩ | ⟨hN0, hR0⟩ | ⟨hN0, hR0⟩ | ⟨hN0, hR0⟩ <;>
    ((first | subst hR0 | skip)
     go_enter Tryd.func47, Tryd.ntmps47
     go_wp2_with (refine Mm.wp_store4 _ rfl _ _ rfl o _ _ _ _ _ _ (by rw [← ho]; exact heap_alloc_new w2 _) rfl rfl rfl Mm.leaf_one ?_; intro w3 hw3 hs3 hg3; clear hs3; have P3 := Pl.hid (Mm.Pls.first hw1 hw2 hq hr ho hw3 hg3); clear hw3 hg3; have q0 := Mm.cell_of P3.out.hq (i := 0) rfl; have q1 := Mm.cell_of P3.out.hq (i := 1) rfl; have q2 := Mm.cell_of P3.out.hq (i := 2) rfl; have q3 := Mm.cell_of P3.out.hq (i := 3) rfl; have e0 := Mm.cell_of P3.out.ho (i := 0) rfl; have e1 := Mm.cell_of P3.out.ho (i := 1) rfl; have e2 := Mm.cell_of P3.out.ho (i := 2) rfl; have e3 := Mm.cell_of P3.out.ho (i := 3) rfl)
     have HQW : Hid (w.heap.size = q) := hq
     obtain ⟨lo, hlo⟩ : ∃ lo, lo = w3.heap.size := ⟨_, rfl⟩
     have HLO : Hid (lo = w3.heap.size ∧ w.heap.size ≤ r ∧ r < o ∧ o < lo) := ⟨hlo, by have := P3.out.ne; omega, P3.out.ne.2.2, by rw [hlo]; exact (Array.getElem?_eq_some_iff.1 P3.out.ho).1⟩
     clear hlo q0 q1 q2 q3 e0 e1 e2 e3 hw1 hw2 hq hr ho HB2 HQ1 HQ2 HR2
     go_loopw [80] (fun iv wr => ∃ (i : Nat) (lv : Value), iv = .int .i64 i ∧ i ≤ N ∧ Hid (wr.heap[o]? = some (.cells #[.int .i64 6, .string ⟨#[]⟩, .int .i64 0, lv] 31 (0, 0))) ∧ Hid (wr.heap[r]? = some (.cells #[.int .i64 0, .string ⟨#[]⟩, .int .i64 0, .slice none 0 0] 31 (0, 0))) ∧ Hid (Mm.OwnL wr lo lv ((l.take i).map (RT.plainR g))) ∧ Hid (Below w.heap.size w wr ∧ lo ≤ wr.heap.size)) (fun iv _ => N - (intOf iv).toNat)
     case atStart => exact ⟨0, .slice none 0 0, rfl, Nat.zero_le _, P3.out.ho, P3.out.hr, Mm.OwnL.nil _ _, P3.out.hb, by rw [HLO.out.1]; exact Nat.le_refl _⟩
     case round =>
       obtain ⟨i, lv, rfl, hi, HP, HR, HO, HBr⟩ := hrel
       have e0 := Mm.cell_of HP.out (i := 0) rfl
       have e1 := Mm.cell_of HP.out (i := 1) rfl
       have e2 := Mm.cell_of HP.out (i := 2) rfl
       have e3 := Mm.cell_of HP.out (i := 3) rfl
       rcases Nat.lt_or_ge i N with hltN | hge
       · have hlt : i < l.length := by rw [← HN.out]; exact hltN
         rcases HEL.out with h0 | ⟨b, rfl, hbl, hel⟩
         · omega
         obtain ⟨f0, f1, f2, f3, h0, h1, h2, h3, hrep⟩ := hel i hlt
         have HBW : Hid (Below W.heap.size W wr) := HB.out.trans (HBr.out.1.mono HB.out.size)
         have g0 : wr.cell? ⟨b, i * 4, none⟩ = some f0 := (HBW.out.cell (p := ⟨b, i * 4, none⟩) hbl).trans h0
         have g1 : wr.cell? ⟨b, i * 4 + 1, none⟩ = some f1 := (HBW.out.cell (p := ⟨b, i * 4 + 1, none⟩) hbl).trans h1
         have g2 : wr.cell? ⟨b, i * 4 + 2, none⟩ = some f2 := (HBW.out.cell (p := ⟨b, i * 4 + 2, none⟩) hbl).trans h2
         have g3 : wr.cell? ⟨b, i * 4 + 3, none⟩ = some f3 := (HBW.out.cell (p := ⟨b, i * 4 + 3, none⟩) hbl).trans h3
         have HREP := Pl.hid hrep
         clear h0 h1 h2 h3 hrep hel
         obtain ⟨y, hy⟩ : ∃ y, y = wr.heap.size := ⟨_, rfl⟩
         have HY := Pl.hid hy
         have HPLT : Hid (o < y ∧ r < y) := ⟨by rw [hy]; exact (Array.getElem?_eq_some_iff.1 HP.out).1, by rw [hy]; exact (Array.getElem?_eq_some_iff.1 HR.out).1⟩
         clear hy e0 e1 e2 e3
         go_wp2_with (refine Mm.wp_store4 _ rfl _ _ rfl wr.heap.size _ _ _ _ _ _ (heap_alloc_new wr _) rfl rfl rfl HREP.out.one ?_; intro w4 hw4 hs4 hg4; have HW4 := Pl.hid hw4; have HG4 := Pl.hid hg4; clear hw4 hs4 hg4)
         rw [HY.out.symm] at HW4 HG4
         have hy := HY.out
         have hplt := HPLT.out
         have hlo' := HLO.out
         have hbr := HBr.out.2
         have HPN : Hid (o ≠ y ∧ r ≠ y ∧ o < lo ∧ r < lo ∧ y < w4.heap.size ∧ wr.heap.size = y ∧ lo ≤ y) := by
           have hz := HG4.out.size
           have hz' : (wr.alloc (.cells #[.int .i64 0, .string ⟨#[]⟩, .int .i64 0, .slice none 0 0] 31)).heap.size = wr.heap.size + 1 := by simp
           exact ⟨by omega, by omega, by omega, by omega, by omega, by omega, by omega⟩
         have HBw4 : Hid (Below wr.heap.size wr w4) := ((Below.refl _ _).alloc (Nat.le_refl _) _).grown HG4.out (by simp) (fun k hk => by cases hk; exact Nat.le_of_eq HY.out.symm)
         have HP4 : Hid (w4.heap[o]? = some (.cells #[.int .i64 6, .string ⟨#[]⟩, .int .i64 0, lv] 31 (0, 0))) := (HBw4.out.block o (by omega)).trans HP.out
         have HR4 : Hid (w4.heap[r]? = some (.cells #[.int .i64 0, .string ⟨#[]⟩, .int .i64 0, .slice none 0 0] 31 (0, 0))) := (HBw4.out.block r (by omega)).trans HR.out
         obtain ⟨ts, hts⟩ : ∃ ts, ts = (l.take i).map (RT.plainR g) := ⟨_, rfl⟩
         obtain ⟨tt, htt⟩ : ∃ tt, tt = RT.plainR g (l[i]'hlt) := ⟨_, rfl⟩
         rw [← hts] at HO
         have HLN : Hid (ts.length < 1073741824 ∧ (l[i]'hlt).sz ≤ 1073741824 ∧ ts ++ [tt] = (l.take (i + 1)).map (RT.plainR g) ∧ ts.length = i) :=
           ⟨by rw [hts, List.length_map, List.length_take]; have := HL.out; omega, by have := RT.szL_mem (List.getElem_mem hlt); have := HSZ.out; omega, by rw [hts, htt, List.take_add_one, List.getElem?_eq_getElem hlt, List.map_append]; rfl, by rw [hts, List.length_map, List.length_take]; omega⟩
         have ST5 : Hid (∀ (w5 : World) (d0 d1 d2 d3 : Value), Below w4.heap.size w4 w5 → Mm.OwnT w5 w4.heap.size tt [d0, d1, d2, d3] → w5.cell? ⟨o, 3, none⟩ = some lv ∧ (w5.alloc (.cells #[d0, d1, d2, d3] 31)).cell? ⟨o, 3, none⟩ = some lv ∧
             Hid (Mm.OwnT w5 wr.heap.size tt [d0, d1, d2, d3]) ∧ Hid (Below wr.heap.size wr w5) ∧ Hid (w5.heap[o]? = some (.cells #[.int .i64 6, .string ⟨#[]⟩, .int .i64 0, lv] 31 (0, 0))) ∧ Hid (w5.heap[r]? = some (.cells #[.int .i64 0, .string ⟨#[]⟩, .int .i64 0, .slice none 0 0] 31 (0, 0)))) := fun w5 d0 d1 d2 d3 hb ho => by
           have hn := HPN.out
           have h5 := (hb.block o (by omega)).trans HP4.out
           have c5 := Mm.cell_of h5 (i := 3) (v := lv) rfl
           exact ⟨c5, (World.cell?_alloc_old _ _ _ (by have := World.block_lt_of_cell? _ _ c5; exact Nat.ne_of_lt this)).trans c5, ho.lo (by omega), HBw4.out.trans (hb.mono (by omega)), h5, (hb.block r (by omega)).trans HR4.out⟩
         have ST6 : Hid (∀ (w5 w6 : World), w5.heap[o]? = some (.cells #[.int .i64 6, .string ⟨#[]⟩, .int .i64 0, lv] 31 (0, 0)) → Below lo w5 w6 → w6.cell? ⟨o, 3, none⟩ = some lv ∧ w6.frozen? ⟨o, 3, none⟩ = false) := fun w5 w6 h5 hb => by
           have h6 := (hb.block o HPN.out.2.2.1).trans h5
           exact ⟨Mm.cell_of h6 (i := 3) rfl, Mm.frozen_of h6⟩
         have HBW4 : Hid (Below W.heap.size W w4) := HBW.out.trans (HBw4.out.mono HBW.out.size)
         have HCW := Pl.hid (fun (wz : World) (hz : Below W.heap.size W wz) => HIH.out (l[i]'hlt) HLN.out.2.1 f0 f1 f2 f3 HREP.out wz hz)
         rw [HDE.out, ← htt] at HCW
         have p3 := Mm.cell_of HP4.out (i := 3) (v := lv) rfl
         have q0 := Mm.cell_of HW4.out (i := 0) rfl
         have q1 := Mm.cell_of HW4.out (i := 1) rfl
         have q2 := Mm.cell_of HW4.out (i := 2) rfl
         have q3 := Mm.cell_of HW4.out (i := 3) rfl
         rw [← hy]
         clear hy hplt hlo' hbr g0 g1 g2 g3 hts htt
         go_region_law (first
           | (go_simp; go_at_call 47; (refine (HCW.out _ (by first | exact HBW4.out | exact HBW4.out.drew)).mono ?_; rintro e w5 ⟨d0, d1, d2, d3, rfl, ho5, hb5⟩; obtain ⟨p5, p5a, HT5, HB5, HP5, HR5⟩ := ST5.out w5 d0 d1 d2 d3 (Mm.undrew hb5) ho5; clear ho5 hb5))
           | (refine Mm.step_appR _ (by rfl) _ _ (by rfl) wr w5 lo lv ts (by rfl) HO.out tt [d0, d1, d2, d3] HT5.out (by rfl) (by rfl) HB5.out HLN.out.1 HBr.out.2 ?_; intro v6 w6 ho6 hb6 _; obtain ⟨a6, k6, rfl⟩ := ho6.val; obtain ⟨p6, pf6⟩ := ST6.out w5 w6 HP5.out hb6; have HO6 := Pl.hid ho6; have HB6 := Pl.hid hb6; clear ho6 hb6))
         all_goals
           have HV : Hid ((ts ++ [tt]).length = ts.length + 1) := by
             show _ = _; rw [List.length_append, List.length_singleton]
           have hlen : N < 1073741824 := by rw [HN.out]; exact HL.out
           have HO6' : Hid (Mm.OwnL w6 lo (.slice a6 (ts.length + 1) k6) ((l.take (i + 1)).map (RT.plainR g))) := by
             have := HO6.out
             rw [HV.out, HLN.out.2.2.1] at this
             exact this
           have HP7 := Pl.hid (Mm.heap_set ((HB6.out.block o HPN.out.2.2.1).trans HP5.out) 3 (.slice a6 (ts.length + 1) k6))
           have HG7 := Pl.hid (Mm.grown_set w6 o 3 (.slice a6 (ts.length + 1) k6))
           generalize World.setCell w6 _ _ = w7 at HP7 HG7
           clear p6 pf6 p5 p5a p3 q0 q1 q2 q3 HO6
           go_wp2_with fail
           have hn := HPN.out
           have h5z := HB5.out.size
           have h6z := HB6.out.size
           have hlo9 := HLO.out
           refine ⟨⟨i + 1, _, by go_num, hltN, HP7, ?_, ?_, ?_⟩, by simp [intOf]; omega⟩
           · show _ = _
             rw [HG7.out.block r (by omega) (by intro e; cases e; omega), HB6.out.block r (by omega)]
             exact HR5.out
           · exact HO6'.out.keepLo fun gg hgg hgl => HG7.out.block gg hgl (by intro e; cases e; omega)
           · refine ⟨(HBr.out.1.trans (((HB5.out.mono (by omega)).trans (HB6.out.mono (by omega))))).grown HG7.out (by have := HBr.out.1.size; omega) (fun k hk => by cases hk; omega), ?_⟩
             have := HG7.out.size
             omega
       · have hie : i = N := by omega
         subst hie
         have HO' : Hid (Mm.OwnL wr lo lv (l.map (RT.plainR g))) := by have := HO.out; rw [HN.out, List.take_length] at this; exact this
         go_wp2_with (refine Mm.wp_store4 _ rfl _ _ rfl r _ _ _ _ _ _ HR.out rfl rfl rfl (by intro u hu; simp only [List.mem_cons, List.mem_nil_iff, or_false] at hu; rcases hu with rfl | rfl | rfl | rfl <;> first | rfl | exact HO'.out.one.1) ?_; intro wf hwf hsf hgf)
         have HWF := Pl.hid hwf
         have HG := Pl.hid hgf
         clear hwf hsf hgf
         (try simp only [Exit.inBlock, Exit.then])
         refine bodyPost_ret (Mm.res_cell rfl _ wf r _ _ _ _ _ _ rfl HWF.out) rfl ?_
         have hlo := HLO.out
         have hbr := HBr.out.2
         have key : Mm.OwnT wf w.heap.size (.mk 6 ⟨#[]⟩ 0 (l.map (RT.plainR g))) [.int .i64 6, .string ⟨#[]⟩, .int .i64 0, lv] ∧ Below w.heap.size w wf :=
           ⟨((HO'.out.rep 6 ⟨#[]⟩ 0).keepLo (fun p hp hpl => HG.out.block p hpl (by intro e; cases e; omega))).lo (by omega), HBr.out.1.grown HG.out HBr.out.1.size (fun k hk => by cases hk; omega)⟩
         first | exact ⟨_, _, _, _, rfl, key.1, key.2⟩ | (rw [HQW.out] at key; exact ⟨_, _, _, _, rfl, key.1, key.2⟩))
end Go.Proofs.YtakldjdohgmeiaaDoor

namespace Go.Proofs.YtakldjdohgmeiaaDoor
open Go.RowKit
set_option maxRecDepth 20000

theorem plain_leaf (k : Int) (s : ByteArray) (n : Int) (N : Nat) (a : Option Addr) (cap : Nat) (dp : Int) (w : World) (hc : N = 0 ∨ dp = 8) (hs : s.size ≤ 1073741824) (h6 : RT.kp k ≠ 6) :
    Calls Tryd.prog 47 #[.agg #[.int .i64 k, .string s, .int .i64 n, .slice a N cap], .int .i64 dp] w fun e w' => ∃ (d0 d1 d2 d3 : Value), e = .returned (.agg #[d0, d1, d2, d3]) ∧ Mm.OwnT w' w.heap.size (RT.plH k s n) [d0, d1, d2, d3] ∧ Below w.heap.size w w' := by
  obtain ⟨q1, q2, q3, q4⟩ := RT.kp_tmod k
  obtain ⟨r1, r2⟩ := RT.kp_range k
  obtain ⟨R, hR⟩ : ∃ R, k.tmod 7 = R := ⟨_, rfl⟩
  obtain ⟨K, hK⟩ : ∃ K, RT.kp k = K := ⟨_, rfl⟩
  rw [hR] at q1 q2 q3 q4
  rw [hK] at q1 q2 r1 r2 h6
  have hq : (R < 0 ∧ K = R + 7 + 1) ∨ (¬ R < 0 ∧ K = R + 1) := by
    by_cases h : R < 0
    · exact .inl ⟨h, q1 h⟩
    · exact .inr ⟨h, q2 h⟩
  unfold RT.plH
  rw [hK]
  rcases (show K = 1 ∨ K = 2 ∨ K = 3 ∨ K = 4 ∨ K = 5 ∨ K = 7 by omega) with e | e | e | e | e | e
  · refine (plain_k1 k s n N a cap dp w hc hs (by rw [hR]; omega)).mono ?_
    rintro e' w' ⟨rfl, hb⟩
    rw [if_pos (by omega), e]
    exact ⟨_, _, _, _, rfl, Mm.leaf_own _ _ _ _ _, hb⟩
  · refine (plain_k2 k s n N a cap dp w hc hs (by rw [hR]; omega)).mono ?_
    rintro e' w' ⟨rfl, hb⟩
    rw [if_pos (by omega), e]
    exact ⟨_, _, _, _, rfl, Mm.leaf_own _ _ _ _ _, hb⟩
  · refine (plain_k3 k s n N a cap dp w hc (by rw [hR]; omega)).mono ?_
    rintro e' w' ⟨rfl, hb⟩
    rw [if_neg (by omega), if_pos e]
    exact ⟨_, _, _, _, rfl, Mm.leaf_own _ _ _ _ _, hb⟩
  · refine (plain_k4 k s n N a cap dp w hc (by rw [hR]; omega)).mono ?_
    rintro e' w' ⟨rfl, hb⟩
    rw [if_neg (by omega), if_neg (by omega), if_pos e]
    exact ⟨_, _, _, _, rfl, Mm.leaf_own _ _ _ _ _, hb⟩
  · refine (plain_k5 k s n N a cap dp w hc (by rw [hR]; omega)).mono ?_
    rintro e' w' ⟨rfl, hb⟩
    rw [if_neg (by omega), if_neg (by omega), if_neg (by omega), e]
    exact ⟨_, _, _, _, rfl, Mm.leaf_own _ _ _ _ _, hb⟩
  · refine (plain_k7 k s n N a cap dp w hc (by rw [hR]; omega)).mono ?_
    rintro e' w' ⟨rfl, hb⟩
    rw [if_neg (by omega), if_neg (by omega), if_neg (by omega), e]
    exact ⟨_, _, _, _, rfl, Mm.leaf_own _ _ _ _ _, hb⟩

theorem kp6 {k : Int} (h : RT.kp k = 6) : k.tmod 7 = 5 ∨ k.tmod 7 = -2 := by
  obtain ⟨q1, q2, _, _⟩ := RT.kp_tmod k
  by_cases h0 : k.tmod 7 < 0
  · have := q1 h0; omega
  · have := q2 h0; omega

theorem plainR_walk (W : World) : ∀ g, g ≤ 8 → Mm.PlainC W g
  | 0, _ => by
    intro t hsz c0 c1 c2 c3 hx w hb
    obtain ⟨k, s, n, l⟩ := t
    obtain ⟨a, cap, hcs, _⟩ := hx.open
    simp only [List.cons.injEq, and_true] at hcs
    obtain ⟨rfl, rfl, rfl, rfl⟩ := hcs
    rw [RT.sz_mk] at hsz
    simp only [RT.plainR]
    by_cases h6 : RT.kp k = 6
    · rw [if_pos h6]
      refine (plain_k6d k s n l.length a cap _ w (by simp) (kp6 h6)).mono ?_
      rintro e' w' ⟨rfl, hb⟩
      exact ⟨_, _, _, _, rfl, Mm.leaf_own _ _ _ _ _, hb⟩
    · rw [if_neg h6]
      exact plain_leaf k s n l.length a cap _ w (.inr (by simp)) (by omega) h6
  | g + 1, h => by
    intro t hsz c0 c1 c2 c3 hx w hb
    obtain ⟨k, s, n, l⟩ := t
    have hx0 := hx
    obtain ⟨a, cap, hcs, _⟩ := hx.open
    simp only [List.cons.injEq, and_true] at hcs
    obtain ⟨rfl, rfl, rfl, rfl⟩ := hcs
    rw [RT.sz_mk] at hsz
    simp only [RT.plainR]
    by_cases hl : l ≠ [] ∨ RT.kp k = 6
    · rw [if_pos hl]
      refine plain_list W g h (plainR_walk W g (by omega)) k s n l hsz _ _ _ _ hx0 ?_ w hb
      rcases hl with hl | hl
      · exact .inl (List.length_pos_iff.2 hl)
      · exact .inr (kp6 hl)
    · rw [if_neg hl]
      have hl' : l = [] ∧ RT.kp k ≠ 6 := by
        constructor
        · by_cases e : l = []
          · exact e
          · exact absurd (.inl e) hl
        · exact fun e => hl (.inr e)
      exact plain_leaf k s n l.length a cap _ w (.inl (by rw [hl'.1]; rfl)) (by omega) hl'.2
end Go.Proofs.YtakldjdohgmeiaaDoor

namespace Go.Proofs.YtakldjdohgmeiaaDoor
open Go.RowKit
set_option maxRecDepth 20000

namespace RT
open Pl
/-- broken off anywhere -/
theorem dec_short {t : RT} (hok : t.ok = true) (hin : t.In) (hd : t.depth ≤ 8) (hl : t.enc.length ≤ 16777216) (n : Nat) (hn : n < t.enc.length) : dcode (t.enc.take n) = 5 ∧ dtree (t.enc.take n) = nul ∧ dsize (t.enc.take n) = 0 := by
  refine dec_bad (dec_cut 8 t hok hin hd hl (t.enc.take n) (t.enc.drop n) (List.take_append_drop n _).symm ?_).symm (by decide)
  intro e
  have := congrArg List.length e
  rw [List.length_drop] at this
  simp only [List.length_nil] at this
  omega
end RT
theorem plain_walk8 (W : World) (t : RT) (hsz : t.sz ≤ 1073741824) (c0 c1 c2 c3 : Value) (hx : Mm.RepX W t [c0, c1, c2, c3]) (w : World) (hb : Below W.heap.size W w) :
    Calls Tryd.prog 47 #[.agg #[c0, c1, c2, c3], .int .i64 0] w fun e w' => ∃ (d0 d1 d2 d3 : Value), e = .returned (.agg #[d0, d1, d2, d3]) ∧ Mm.OwnT w' w.heap.size (RT.plainR 8 t) [d0, d1, d2, d3] ∧ Below w.heap.size w w' :=
  plainR_walk W 8 (Nat.le_refl _) t hsz c0 c1 c2 c3 hx w hb

set_option maxHeartbeats 8000000 in
theorem back16_walk (W : World) (v vb : Value) (l : List Nd) (bl : List UInt8) (cut : Int) (hv : Mm.NodesV W v l) (hl : ndW l ≤ 5242880) (hI : ∀ nd ∈ l, Pl.In64 nd.n) (hvb : Mm.Bs W vb bl) (hbl : bl.length ≤ 1048576) (hc : Pl.In64 cut) (hT : Mm.Tab W) (hU : Mm.U8 W) (hX : Mm.MaxI W) (hE : Mm.Errs W) :
    Calls Tryd.prog 8 #[v, vb, .int .i64 cut] W fun e w' => e = .returned (.bool true) ∧ Below W.heap.size W w' := by
  have HTR : Hid _ := Pl.hid (fun (w1 : World) (hb : Below W.heap.size W w1) => tree_walk W v l hv (by omega) hI 12 0 (Nat.le_refl _) rfl 0 w1 (Nat.zero_le _) hb)
  have HT := Pl.hid hT
  have HU := Pl.hid hU
  have HX := Pl.hid hX
  have HE := Pl.hid hE
  have HLW := Pl.hid hl
  have HVB := Pl.hid hvb
  obtain ⟨va, vc, rfl, _⟩ := hv
  obtain ⟨ba, bc, rfl⟩ : ∃ a c, vb = .slice a bl.length c := by obtain ⟨a, c, h, _⟩ := hvb; exact ⟨a, c, h⟩
  obtain ⟨M, hM⟩ : ∃ M, M = bl.length := ⟨_, rfl⟩
  rw [← hM] at HVB hbl ⊢
  have HM := Pl.hid hM
  clear hT hU hX hE hI hl hvb hM
  go_enter Tryd.func8, Tryd.ntmps8
  go_wp2_with fail
  refine (wakes16_walk W W HT.out HU.out HX.out HE.out (Below.refl _ _)).mono ?_
  rintro e w1 ⟨rfl, hb1⟩
  have HB1 := Pl.hid hb1
  clear hb1
  go_wp2_with fail
  refine (HTR.out w1 HB1.out).mono ?_
  rintro e w2 ⟨t, c0, c1, c2, c3, j, rfl, ho2, hb2, _, _, _, hsz, hin⟩
  have hsz' : t.sz ≤ 1073741824 := by have := HLW.out; omega
  have HO2 := Pl.hid ho2
  have HB2 := Pl.hid (HB1.out.trans (hb2.mono HB1.out.size))
  have HSZ := Pl.hid hsz'
  have HPO := Pl.hid (RT.plain_ok 8 t hin)
  clear ho2 hb2 hsz hsz' hin HTR
  obtain ⟨p3, hp3⟩ : ∃ p, p = w2.heap.size := ⟨_, rfl⟩
  have HP3 := Pl.hid hp3
  go_wp2_with (refine Mm.wp_store4 _ rfl _ _ rfl w2.heap.size _ _ _ _ _ _ (heap_alloc_new w2 _) rfl rfl rfl HO2.out.one ?_; intro w3 hw3 _ hg3; rw [← hp3] at hw3 ⊢; have HB3 := Pl.hid (Mm.newcell4 hg3); have k0 := Mm.cell_of hw3 (i := 0) rfl; have k1 := Mm.cell_of hw3 (i := 1) rfl; have k2 := Mm.cell_of hw3 (i := 2) rfl; have k3 := Mm.cell_of hw3 (i := 3) rfl; clear hw3 hg3 hp3)
  refine (plain_walk8 w2 t HSZ.out c0 c1 c2 c3 HO2.out.x w3 HB3.out).mono ?_
  rintro e w4 ⟨d0, d1, d2, d3, rfl, ho4, hb4⟩
  obtain ⟨T, hT⟩ : ∃ T, T = RT.plainR 8 t := ⟨_, rfl⟩
  rw [← hT] at ho4 HPO
  have HO4 := Pl.hid ho4
  have HB4 := Pl.hid (HB2.out.trans ((HB3.out.trans (hb4.mono HB3.out.size)).mono HB2.out.size))
  have HSZT : Hid (T.sz ≤ 1073741824) := by have := HPO.out.2.2.2; have := HSZ.out; show _ ≤ _; omega
  clear ho4 hb4 k0 k1 k2 k3 hT HB3 HP3 HO2 HB2
  obtain ⟨p5, hp5⟩ : ∃ p, p = w4.heap.size := ⟨_, rfl⟩
  have HP5 := Pl.hid hp5
  go_wp2_with (refine Mm.wp_store4 _ rfl _ _ rfl w4.heap.size _ _ _ _ _ _ (heap_alloc_new w4 _) rfl rfl rfl HO4.out.one ?_; intro w5 hw5 _ hg5; rw [← hp5] at hw5 ⊢; have HW5 := Pl.hid hw5; have HB5 := Pl.hid (Mm.newcell4 hg5); have k0 := Mm.cell_of hw5 (i := 0) rfl; have k1 := Mm.cell_of hw5 (i := 1) rfl; have k2 := Mm.cell_of hw5 (i := 2) rfl; have k3 := Mm.cell_of hw5 (i := 3) rfl; clear hw5 hg5 hp5)
  have HCE := Pl.hid (encode_walk w4 (HT.out.on HB4.out) T HPO.out.2.1 HSZT.out d0 d1 d2 d3 HO4.out.x w5 HB5.out)
  have HBW5 : Hid (Below W.heap.size W w5) := HB4.out.trans (HB5.out.mono HB4.out.size)
  rcases Nat.lt_or_ge 16777216 T.enc.length with hlong | hshort
  · have HC := Pl.hid (RT.co_long HPO.out.1 (by have := HPO.out.2.2.1; omega) hlong)
    clear hlong
    rw [HC.out.1, HC.out.2] at HCE
    refine HCE.out.mono ?_
    rintro e w6 ⟨v6, rfl, ho6, hb6⟩
    obtain ⟨a6, q6, rfl, _⟩ := ho6.val
    have HB6 := Pl.hid (HBW5.out.trans (hb6.mono HBW5.out.size))
    clear ho6 hb6 k0 k1 k2 k3 HCE
    go_wp2_with fail
    go_ret
    exact ⟨rfl, HB6.out⟩
  · have HC := Pl.hid (RT.co_good HPO.out.1 (by have := HPO.out.2.2.1; omega) (by omega))
    rw [HC.out.1, HC.out.2] at HCE
    obtain ⟨E, hE⟩ : ∃ E, E = T.enc := ⟨_, rfl⟩
    obtain ⟨N, hN⟩ : ∃ N, N = E.length := ⟨_, rfl⟩
    have hN3 : 3 ≤ N := by rw [hN, hE]; exact (RT.sz_enc T HPO.out.1).2
    have hN16 : N ≤ 16777216 := by rw [hN, hE]; exact hshort
    have HEE := Pl.hid hE
    have HNN := Pl.hid hN
    rw [← hE] at HCE
    clear hE hN hshort
    refine HCE.out.mono ?_
    rintro e w6 ⟨v6, rfl, ho6, hb6⟩
    obtain ⟨a6, q6, rfl, hq6⟩ := ho6.val
    rw [← HNN.out] at ho6 hq6 ⊢
    have HO6 := Pl.hid ho6
    have hNc : N ≤ q6 := by
      obtain ⟨_, _, e, h, _⟩ := ho6.bs
      injection e with e1 e2 e3
      rw [← HNN.out, ← e3] at h
      exact h
    have HB6 := Pl.hid (HBW5.out.trans (hb6.mono HBW5.out.size))
    have HW6 : Hid (w6.heap[p5]? = some (.cells #[d0, d1, d2, d3] 31 (0, 0))) := (hb6.block p5 (Array.getElem?_eq_some_iff.1 HW5.out).1).trans HW5.out
    have HX6 : Hid (Mm.RepX w6 T [d0, d1, d2, d3]) := (HO4.out.x.keep HB5.out).keep hb6
    clear ho6 hb6 k0 k1 k2 k3 HCE HB5 HW5 HO4 HP5
    have HL1 : Hid (([] : List UInt8).length + E.length ≤ 140737488355328 ∧ E.length + bl.length ≤ 140737488355328 ∧ (E ++ bl).length ≤ 100000000 ∧ (E ++ bl).length = N + M) := by
      have h1 := HNN.out
      have h2 := HM.out
      exact ⟨by simp only [List.length_nil]; omega, by omega, by rw [List.length_append]; omega, by rw [List.length_append]; omega⟩
    have HV6 : Hid (Mm.Bs w6 (.slice ba M bc) bl) := HVB.out.dn HB6.out
    have HD := Pl.hid (RT.dec_of_enc HPO.out.1 HPO.out.2.1 HPO.out.2.2.1 (by rw [← HEE.out, ← HNN.out]; exact hN16) bl)
    rw [← HEE.out, ← HNN.out] at HD
    go_wp2_with (first
      | (at_builtin; refine Mm.wp_appW w6 rfl _ _ (by rfl) w6.heap.size (.slice none 0 0) [] (by rfl) (Mm.ownB_nil _ _) _ E (by rfl) HO6.out.bs HL1.out.1 (Nat.le_refl _) ?_; intro v7 w7 ho7 hg7 _; rw [List.nil_append] at ho7; obtain ⟨a7, k7, rfl, _⟩ := ho7.val; rw [← HNN.out] at ho7 ⊢; have HO7 := Pl.hid ho7; have HG7 : Hid (Below w6.heap.size w6 w7) := (Below.refl w6.heap.size w6).grown hg7 (Nat.le_refl _) (fun k hk => by cases hk); clear ho7 hg7)
      | (at_builtin; refine Mm.wp_appW w7 rfl _ _ (by rfl) w6.heap.size (.slice a7 N k7) E (by rfl) HO7.out _ bl (by rfl) (HV6.out.dn HG7.out) HL1.out.2.1 HG7.out.size ?_; intro v8 w8 ho8 hg8 _; obtain ⟨a8, k8, rfl, _⟩ := ho8.val; rw [HL1.out.2.2.2] at ho8 ⊢; have HO8 := Pl.hid ho8; have HG8 : Hid (Below w6.heap.size w6 w8) := HG7.out.grown hg8 HG7.out.size (fun k hk => (HO7.out.lt k hk).1); clear ho8 hg8))
    have HB8 : Hid (Below W.heap.size W w8) := HB6.out.trans (HG8.out.mono HB6.out.size)
    refine (decode_walk w8 (HU.out.on HB8.out) (HX.out.on HB8.out) (HE.out.on HB8.out) _ (E ++ bl) HO8.out.bs HL1.out.2.2.1).mono ?_
    rw [HD.out.1, HD.out.2.1, HD.out.2.2]
    rintro e w9 ⟨e0, e1, e2, e3, rfl, ho9, hb9⟩
    have HO9 := Pl.hid ho9
    have HB9 := Pl.hid (HB8.out.trans (hb9.mono HB8.out.size))
    have HG9 : Hid (Below w6.heap.size w6 w9) := HG8.out.trans (hb9.mono HG8.out.size)
    clear ho9 hb9
    have HX9 : Hid (Mm.RepX w9 T [d0, d1, d2, d3]) := HX6.out.keep HG9.out
    have HW9 : Hid (w9.heap[p5]? = some (.cells #[d0, d1, d2, d3] 31 (0, 0))) := (HG9.out.block p5 (Array.getElem?_eq_some_iff.1 HW6.out).1).trans HW6.out
    obtain ⟨p9, hp9⟩ : ∃ p, p = w9.heap.size := ⟨_, rfl⟩
    go_wp2_with (refine Mm.wp_store4 _ rfl _ _ rfl w9.heap.size _ _ _ _ _ _ (heap_alloc_new w9 _) rfl rfl rfl HO9.out.one ?_; intro wa hwa _ hga; rw [← hp9] at hwa ⊢; have HBA := Pl.hid (Mm.newcell4 hga); have q0 := Mm.cell_of hwa (i := 0) rfl; have q1 := Mm.cell_of hwa (i := 1) rfl; have q2 := Mm.cell_of hwa (i := 2) rfl; have q3 := Mm.cell_of hwa (i := 3) rfl; have HWA : Hid (wa.heap[p5]? = some (.cells #[d0, d1, d2, d3] 31 (0, 0))) := (HBA.out.block p5 (Array.getElem?_eq_some_iff.1 HW9.out).1).trans HW9.out; have k0 := Mm.cell_of HWA.out (i := 0) rfl; have k1 := Mm.cell_of HWA.out (i := 1) rfl; have k2 := Mm.cell_of HWA.out (i := 2) rfl; have k3 := Mm.cell_of HWA.out (i := 3) rfl; clear hwa hga hp9)
    refine (alike_tree w9 T HSZT.out _ _ _ _ _ _ _ _ HO9.out.x HX9.out wa HBA.out).mono ?_
    rintro e wb ⟨rfl, hbb⟩
    have HBB := Pl.hid (HB9.out.trans ((HBA.out.trans (hbb.mono HBA.out.size)).mono HB9.out.size))
    have HV6B : Hid (Below w6.heap.size w6 wb) := HG9.out.trans ((HBA.out.trans (hbb.mono HBA.out.size)).mono HG9.out.size)
    clear hbb q0 q1 q2 q3 k0 k1 k2 k3 HBA HWA HW9 HX9 HO9
    obtain ⟨R, hR⟩ : ∃ R, cut.tmod (N : Int) = R := ⟨_, rfl⟩
    have hb1 : R < (N : Int) := by rw [← hR]; exact Int.tmod_lt_of_pos _ (by omega)
    have hb2 : -(N : Int) < R := by rw [← hR]; exact Int.lt_tmod_of_pos _ (by omega)
    rcases (show R < 0 ∨ 0 ≤ R by omega) with hneg | hpos
    · obtain ⟨K, hK⟩ : ∃ K : Nat, R + (N : Int) = (K : Int) := ⟨(R + (N : Int)).toNat, by omega⟩
      have hKN : K < N := by omega
      have HSH := Pl.hid (RT.dec_short HPO.out.1 HPO.out.2.1 HPO.out.2.2.1 (by rw [← HEE.out, ← HNN.out]; exact hN16) K (by rw [← HEE.out, ← HNN.out]; exact hKN))
      rw [← HEE.out] at HSH
      go_wp2_with fail
      have HF : Hid (Mm.Bs wb (.slice a6 K q6) (E.take K)) := by
        have h := HO6.out.bs.dn HV6B.out
        have e := HNN.out
        have h2 : Mm.Bs wb (.slice a6 N q6) (E.take K ++ E.drop K) := by rw [List.take_append_drop]; exact h
        have h3 := h2.front
        rw [List.length_take, ← e, Nat.min_eq_left (by omega)] at h3
        exact h3
      refine (decode_walk wb (HU.out.on HBB.out) (HX.out.on HBB.out) (HE.out.on HBB.out) _ (E.take K) HF.out (by rw [List.length_take]; omega)).mono ?_
      rw [HSH.out.1, HSH.out.2.1, HSH.out.2.2]
      rintro e wc ⟨g0, g1, g2, g3, rfl, hoc, hbc⟩
      have HOC := Pl.hid hoc
      have HBC := Pl.hid (HBB.out.trans (hbc.mono HBB.out.size))
      clear hoc hbc
      obtain ⟨pc, hpc⟩ : ∃ p, p = wc.heap.size := ⟨_, rfl⟩
      go_wp2_with (refine Mm.wp_store4 _ rfl _ _ rfl wc.heap.size _ _ _ _ _ _ (heap_alloc_new wc _) rfl rfl rfl HOC.out.one ?_; intro wd hwd _ hgd; rw [← hpc] at hwd ⊢; have HBD := Pl.hid (Mm.newcell4 hgd); have q0 := Mm.cell_of hwd (i := 0) rfl; have q1 := Mm.cell_of hwd (i := 1) rfl; have q2 := Mm.cell_of hwd (i := 2) rfl; have q3 := Mm.cell_of hwd (i := 3) rfl; clear hwd hgd hpc)
      refine (alike_tree wc RT.nul (by decide) _ _ _ _ _ _ _ _ HOC.out.x (Mm.leaf_x wc 0 ⟨#[]⟩ 0) wd HBD.out).mono ?_
      rintro e we ⟨rfl, hbe⟩
      go_wp2_with fail
      go_ret
      exact ⟨rfl, HBC.out.trans ((HBD.out.trans (hbe.mono HBD.out.size)).mono HBC.out.size)⟩
    · obtain ⟨K, rfl⟩ : ∃ K : Nat, R = (K : Int) := ⟨R.toNat, by omega⟩
      have hKN : K < N := by omega
      have HSH := Pl.hid (RT.dec_short HPO.out.1 HPO.out.2.1 HPO.out.2.2.1 (by rw [← HEE.out, ← HNN.out]; exact hN16) K (by rw [← HEE.out, ← HNN.out]; exact hKN))
      rw [← HEE.out] at HSH
      go_wp2_with fail
      have HF : Hid (Mm.Bs wb (.slice a6 K q6) (E.take K)) := by
        have h := HO6.out.bs.dn HV6B.out
        have e := HNN.out
        have h2 : Mm.Bs wb (.slice a6 N q6) (E.take K ++ E.drop K) := by rw [List.take_append_drop]; exact h
        have h3 := h2.front
        rw [List.length_take, ← e, Nat.min_eq_left (by omega)] at h3
        exact h3
      refine (decode_walk wb (HU.out.on HBB.out) (HX.out.on HBB.out) (HE.out.on HBB.out) _ (E.take K) HF.out (by rw [List.length_take]; omega)).mono ?_
      rw [HSH.out.1, HSH.out.2.1, HSH.out.2.2]
      rintro e wc ⟨g0, g1, g2, g3, rfl, hoc, hbc⟩
      have HOC := Pl.hid hoc
      have HBC := Pl.hid (HBB.out.trans (hbc.mono HBB.out.size))
      clear hoc hbc
      obtain ⟨pc, hpc⟩ : ∃ p, p = wc.heap.size := ⟨_, rfl⟩
      go_wp2_with (refine Mm.wp_store4 _ rfl _ _ rfl wc.heap.size _ _ _ _ _ _ (heap_alloc_new wc _) rfl rfl rfl HOC.out.one ?_; intro wd hwd _ hgd; rw [← hpc] at hwd ⊢; have HBD := Pl.hid (Mm.newcell4 hgd); have q0 := Mm.cell_of hwd (i := 0) rfl; have q1 := Mm.cell_of hwd (i := 1) rfl; have q2 := Mm.cell_of hwd (i := 2) rfl; have q3 := Mm.cell_of hwd (i := 3) rfl; clear hwd hgd hpc)
      refine (alike_tree wc RT.nul (by decide) _ _ _ _ _ _ _ _ HOC.out.x (Mm.leaf_x wc 0 ⟨#[]⟩ 0) wd HBD.out).mono ?_
      rintro e we ⟨rfl, hbe⟩
      go_wp2_with fail
      go_ret
      exact ⟨rfl, HBC.out.trans ((HBD.out.trans (hbe.mono HBD.out.size)).mono HBC.out.size)⟩
end Go.Proofs.YtakldjdohgmeiaaDoor

namespace Go.Proofs.YtakldjdohgmeiaaDoor.Fr
open Go.ChangeShapes Go.WideShapes Go.ChangeAt Go.RowKit

section
variable {H : Type} {enc : TypeId × Value → H} {P : Program}

theorem trodAll_below (hl : laidOutB P = true) {W W' : World} (hb : Below W.heap.size W W') :
    ∀ {ts : List TypeId} {vs : List Value} {ds : List (DataW H)} {ps : List MemPlace}, (∀ t ∈ ts, P.readableRec t = true ∧ t < P.types.size) →
      DataW.TrodAll enc P W 0 (fun _ => true) true ts vs ds ps → DataW.TrodAll enc P W' 0 (fun b => decide (b < W.heap.size)) true ts vs ds ps
  | [], [], [], _, _, h => h
  | t :: ts, v :: vs, d :: ds, ps, hr, h => by
    obtain ⟨p, q, h1, h2, rfl⟩ := h
    have hlt : ∀ x ∈ p, x.block < W.heap.size := by
      obtain ⟨m, hm⟩ := h1
      exact DataW.trod_lt m _ _ _ hm
    exact ⟨p, q, Below.trod hl (hr t (by simp)).1 (hr t (by simp)).2 h1 hb hlt, trodAll_below hl hb (fun t' ht' => hr t' (by simp [ht'])) h2, rfl⟩
  | [], _ :: _, _, _, _, h => h.elim
  | [], [], _ :: _, _, _, h => h.elim
  | _ :: _, [], _, _, _, h => h.elim
  | _ :: _, _ :: _, [], _, _, h => h.elim

theorem trodAll_length {W : World} {base : Nat} {sp : Nat → Bool} {held : Bool} :
    ∀ {ts : List TypeId} {vs : List Value} {ds : List (DataW H)} {ps : List MemPlace}, DataW.TrodAll enc P W base sp held ts vs ds ps → ds.length = ts.length
  | [], [], [], _, _ => rfl
  | t :: ts, v :: vs, d :: ds, ps, h => by
    obtain ⟨p, q, _, h2, _⟩ := h
    simp [trodAll_length h2]
  | [], _ :: _, _, _, h => h.elim
  | [], [], _ :: _, _, h => h.elim
  | _ :: _, [], _, _, h => h.elim
  | _ :: _, _ :: _, [], _, h => h.elim

theorem post_true {f : Func} {s : ChangeSpec} {W W' : World} {args : Array Value} {ds gs : List (DataW H)} {before : List MemPlace} {tb : TypeId} (hl : laidOutB P = true)
    (hts : ∀ t ∈ f.params.toList, P.readableRec t = true ∧ t < P.types.size) (hvars : s.vars = []) (hW : DataW.Whole enc P f.params.toList s.vars false W args.toList ds gs before)
    (hb : Below W.heap.size W W') (hres : f.resultTypes = #[tb]) (hub : P.underlying tb = some .bool) (hfn : s.fn H (ds ++ gs) = { results := [.lit (.bool true)], args := ds }) :
    s.post enc P f false true false false W args (.bool true) W' := by
  have hW' := hW
  obtain ⟨p, q, h1, h2, rfl, hz, ha⟩ := hW
  rw [hvars] at h2
  obtain ⟨rfl, rfl⟩ := trodVars_none h2
  refine ⟨ds, [], p ++ [], [], p, [], hW', ?_, ?_, ?_, hb.frame _, fun h => by cases h⟩
  · rw [hfn, hres]
    exact trodAll_mk1 (shut_bool hub _)
  · rw [hfn]
    exact trodAll_below hl hb hts h1
  · rw [hfn, hvars]
    rfl
end

theorem str_size {a : ByteArray} (h : a.data.toList.length ≤ reachBytes) : a.size ≤ 140737488351232 := by
  rw [Array.length_toList] at h
  exact h

theorem lifted {H : Type} {enc : TypeId × Value → H} {C : Checked} {os : Os} {f : FuncId} {fn : Func} {s : OpenSpec} {F : Stop.Interp} {laid : List (String × DataW Unit)} {tb : TypeId}
    (own : ownKnob C.prog.godebug = none) (started : os.Started) (noInit : C.prog.inits.idxOf? f = none) (hfn : C.prog.funcs[f]? = some fn)
    (witness : ∃ (w : World) (tape : Tape) (i : Input), w.os = os ∧ (w.forCall tape i).Shaped C.prog ∧ i.vars = [] ∧ Input.okWide C.prog (w.forCall tape i) .any w.heap.size f i ∧
      s.preRow enc C.prog fn [] false laid (w.forCall tape i).memory i.args ∧ ({} : Assume).holds C.prog (lone (Frame.enter C.prog f i.args .normal) [] (w.forCall tape i)))
    (hl : laidOutB C.prog = true) (hts : (fn.params.toList.all fun t => C.prog.readableRec t && decide (t < C.prog.types.size)) = true) (hvars : s.vars = [])
    (hres : fn.resultTypes = #[tb]) (hub : C.prog.underlying tb = some .bool)
    (hspec : ∀ ds : List (DataW H), ds.length = fn.params.toList.length → (s.at F).fn H ds = { results := [.lit (.bool true)], args := ds })
    (walk : ∀ (W : World) (base : Nat) (args : Array Value) (ds : List (DataW H)) (before : List MemPlace),
      (∀ (j : Nat) t v, fn.params[j]? = some t → args[j]? = some v → Value.okWide C.prog W .any base t v) →
      DataW.TrodAll enc C.prog W 0 (fun _ => true) true fn.params.toList args.toList ds before → W.noneFrozen before →
      (∀ k, s.cond = some k → k H ds = true) →
      (DataW.weightsEach C.prog fn.params.toList ds).all (· ≤ reachBytes) = true →
      laidMetH C.prog laid W → W.ShapedOpen C.prog →
      Calls C.prog f args W fun e W' => e = .returned (.bool true) ∧ Below W.heap.size W W') :
    ReturnsInHanded {} C os f .any (s.preRow enc C.prog fn [] false laid) ((s.at F).post enc C.prog fn false true false false) := by
  have hts' : ∀ t ∈ fn.params.toList, C.prog.readableRec t = true ∧ t < C.prog.types.size := by
    intro t ht
    have := List.all_eq_true.1 hts t ht
    simpa using this
  refine returnsInHanded_of_row own started noInit hfn witness ?_
  intro W base args ds gs before hval hW _ hk hsz hL hsh _
  have hW0 := hW
  obtain ⟨p, q, h1, h2, rfl, hz, ha⟩ := hW
  rw [hvars] at h2
  obtain ⟨rfl, rfl⟩ := trodVars_none h2
  have hvt : s.bare.plain.varTypes C.prog = [] := by
    show s.vars.filterMap _ = []
    rw [hvars]
    rfl
  rw [hvt] at hsz
  simp only [List.append_nil] at hk hsz hz
  refine (walk W base args ds p hval h1 hz hk hsz hL hsh).mono fun e W' ⟨he, hb⟩ => ?_
  subst he
  refine ⟨_, rfl, ?_⟩
  exact post_true hl hts' hvars hW0 hb hres hub (by rw [List.append_nil]; exact hspec ds (trodAll_length h1))
end Go.Proofs.YtakldjdohgmeiaaDoor.Fr

namespace Go.Proofs.YtakldjdohgmeiaaDoor.Fr
open Go.ChangeShapes Go.WideShapes Go.ChangeAt Go.RowKit
set_option maxRecDepth 100000

theorem witness_shaped {H : Type} {enc : TypeId × Value → H} {C : Checked} {os : Os} {f : FuncId} {fn : Func} {s : OpenSpec} {conds : List PathCond} {apart : Bool} {laid : List (String × DataW Unit)} (w0 : World) (args : Array Value) (hos : w0.os = os)
    (hsh : (w0.forCall (fun _ _ => 0) ⟨#[], args, []⟩).Shaped C.prog)
    (hok : Input.okWideB C.prog (w0.forCall (fun _ _ => 0) ⟨#[], args, []⟩) f ⟨#[], args, []⟩ = true)
    (hrow : s.preRow enc C.prog fn conds apart laid (w0.forCall (fun _ _ => 0) ⟨#[], args, []⟩).memory args) :
    ∃ (w : World) (tape : Tape) (i : Input), w.os = os ∧ (w.forCall tape i).Shaped C.prog ∧ i.vars = [] ∧ Input.okWide C.prog (w.forCall tape i) .any w.heap.size f i ∧
      s.preRow enc C.prog fn conds apart laid (w.forCall tape i).memory i.args ∧ ({} : Assume).holds C.prog (lone (Frame.enter C.prog f i.args .normal) [] (w.forCall tape i)) :=
  ⟨w0, fun _ _ => 0, ⟨#[], args, []⟩, hos, hsh, (Input.okWide_of_okWideB (base := 0) hok).1, (Input.okWide_of_okWideB hok).2, hrow, by
    simp only [Assume.holds]
    exact ⟨by simp, by simp, fun _ => Modest.zero, by simp, by simp⟩⟩

theorem gPow : Tryd.prog.globalNamed "internal/strconv.uint64pow10" = some 9 := by kernel_rfl
theorem gPowType : (Tryd.prog.globals[9]?).map (·.type) = some 166 := by kernel_rfl
theorem cellsPow : Tryd.prog.cellsOf 166 = 20 := by kernel_rfl
theorem cellsU64 : Tryd.prog.cellsOf 141 = 1 := by kernel_rfl
/-- the table of powers, third on every list -/
theorem tab {W : World} {x y : String × DataW Unit} {rest : List (String × DataW Unit)} (h : laidMet Tryd.prog (x :: y :: ("internal/strconv.uint64pow10", Rows.laid_internal_strconv_uint64pow10) :: rest) W) : Mm.Tab W :=
  Mm.tab_of (Lib.tabIs_of_head (rest := rest) gPow gPowType Tryd.underlying166 Tryd.underlying141 cellsU64 cellsPow h.tail.tail)

theorem gRange : Tryd.prog.globalNamed "strconv.ErrRange" = some 11 := by kernel_rfl
theorem gRangeType : (Tryd.prog.globals[11]?).map (·.type) = some 53 := by kernel_rfl
theorem gSyntax : Tryd.prog.globalNamed "strconv.ErrSyntax" = some 10 := by kernel_rfl
theorem gSyntaxType : (Tryd.prog.globals[10]?).map (·.type) = some 53 := by kernel_rfl
theorem starErr : "*" ++ "errors.errorString" = "*errors.errorString" := by decide
theorem rowErr (u : TypeId) (h : Tryd.prog.typeName? 3 u = some "*errors.errorString") : u = 177 :=
  typeName_ptr_named (nm := "errors.errorString") (by rw [starErr]; kernel_rfl) (by kernel_rfl) (by decide) u (by rw [starErr]; exact h)
theorem cellsErr : Tryd.prog.cellsOf 179 = 1 := by kernel_rfl
theorem cellsStr : Tryd.prog.cellsOf 9 = 1 := by kernel_rfl
/-- the two errors of the library -/
theorem errs {W : World} {r r' : List (String × DataW Unit)} (h1 : laidMet Tryd.prog (("strconv.ErrRange", Rows.laid_strconv_ErrRange) :: r) W) (h2 : laidMet Tryd.prog (("strconv.ErrSyntax", Rows.laid_strconv_ErrSyntax) :: r') W) : Mm.Errs W := by
  obtain ⟨a1, s1, v1, _⟩ := laid_sentinel h1 gRange gRangeType Tryd.underlying53 rowErr Tryd.underlying177 Tryd.underlying179 rfl rfl Tryd.underlying9 cellsErr cellsStr
  obtain ⟨a2, s2, v2, _⟩ := laid_sentinel h2 gSyntax gSyntaxType Tryd.underlying53 rowErr Tryd.underlying177 Tryd.underlying179 rfl rfl Tryd.underlying9 cellsErr cellsStr
  exact Mm.errs_of ⟨_, _, v2⟩ ⟨_, _, v1⟩
end Go.Proofs.YtakldjdohgmeiaaDoor.Fr

namespace Go.Proofs.YtakldjdohgmeiaaDoor.Arg
open Go.ChangeShapes Go.WideShapes Go.ChangeAt Go.RowKit
open Mm Pl
set_option maxRecDepth 20000

theorem addM (b o n : Nat) : (⟨b, o, none⟩ : Addr).add n = ⟨b, o + n, none⟩ := by
  unfold Addr.add; split <;> simp_all
theorem cellsNode : Tryd.prog.cellsOf 83 = 4 := by kernel_rfl
theorem cellsInt : Tryd.prog.cellsOf 3 = 1 := by kernel_rfl
theorem cellsI64 : Tryd.prog.cellsOf 2 = 1 := by kernel_rfl
/-- one node -/
theorem node {H : Type} {enc : TypeId × Value → H} {W : World} {fuel : Nat} {cs : List Value} {x : DataW H × List MemPlace}
    (h : DataW.trod enc Tryd.prog W 0 (fun _ => true) true fuel 83 cs = some x) : ∃ nd : Nd, cs = [.int .i64 nd.k, .string nd.s, .int .i64 nd.n, .int .i64 nd.c] ∧ nd.s.size + 25 ≤ 5 * Rows.uptoBulk x.1 ∧ In64 nd.n := by
  obtain ⟨y0, y1, y2, y3, n, rfl, hl, h0, h1, h2, h3⟩ := Go.Joins.trod_struct4 Tryd.underlying83 h
  rw [cellsNode] at hl
  obtain ⟨c0, c1, c2, c3, rfl⟩ : ∃ c0 c1 c2 c3, cs = [c0, c1, c2, c3] := by
    match cs, hl with
    | [c0, c1, c2, c3], _ => exact ⟨c0, c1, c2, c3, rfl⟩
  simp only [cellsInt, Fr.cellsStr, cellsI64] at h0 h1 h2 h3
  obtain ⟨k, e0, f0, _⟩ := DataW.trod_int Tryd.underlying3 h0
  obtain ⟨s, e1, f1, _⟩ := DataW.trod_string Tryd.underlying9 h1
  obtain ⟨m, e2, f2, w2⟩ := DataW.trod_int Tryd.underlying2 h2
  obtain ⟨c, e3, f3, _⟩ := DataW.trod_int Tryd.underlying3 h3
  simp at e0 e1 e2 e3
  subst e0 e1 e2 e3
  refine ⟨⟨k, s, m, c⟩, rfl, ?_, bounds_i64 w2⟩
  rw [f0, f1, f2, f3]
  simp only [Rows.uptoBulk, Rows.uptoBulkAll, Array.length_toList]
  have : s.data.size = s.size := rfl
  omega
theorem ndW_bulk {H : Type} : ∀ (l : List Nd) (ds : List (DataW H)), l.length = ds.length → (∀ i (h1 : i < l.length) (h2 : i < ds.length), (l[i]'h1).s.size + 25 ≤ 5 * Rows.uptoBulk (ds[i]'h2)) → ndW l ≤ 5 * Rows.uptoBulkAll ds
  | [], _, _, _ => by simp [ndW]
  | x :: l, [], h, _ => by simp at h
  | x :: l, d :: ds, h, hb => by
    have h1 := hb 0 (by simp) (by simp)
    have h2 := ndW_bulk l ds (by simpa using h) fun i a b => hb (i + 1) (by simpa using a) (by simpa using b)
    simp only [List.getElem_cons_zero] at h1
    simp only [ndW, Rows.uptoBulkAll]
    omega
/-- nodes that came in -/
theorem nodes {H : Type} {enc : TypeId × Value → H} {W : World} {fuel : Nat} {v : Value} {x : DataW H × List MemPlace}
    (h : DataW.trod enc Tryd.prog W 0 (fun _ => true) true fuel 39 [v] = some x) : ∃ l : List Nd, NodesV W v l ∧ ndW l ≤ 5 * Rows.uptoBulk x.1 ∧ ∀ nd ∈ l, In64 nd.n := by
  rcases Go.Deep.open_slice Tryd.underlying39 h with ⟨e3, _⟩ | ⟨ad, len, cap, m, n, D, Pq, e3, _, hlc, hcap, hm, hxx, hx⟩
  · obtain rfl := List.cons.inj e3 |>.1
    exact ⟨[], ⟨none, 0, rfl, .inl rfl⟩, by simp [ndW], fun nd h => by cases h⟩
  · obtain rfl := List.cons.inj e3 |>.1
    have hlm : len ≤ m := by rw [hm]; split <;> omega
    rw [cellsNode] at hx
    have key : ∀ i, i < len → ∃ nd : Nd, (∀ j, j < 4 → W.cell? ((ad.add (i * 4)).add j) = [Value.int .i64 nd.k, .string nd.s, .int .i64 nd.n, .int .i64 nd.c][j]?) ∧ nd.s.size + 25 ≤ 5 * Rows.uptoBulk (D i) ∧ In64 nd.n := by
      intro i hi
      obtain ⟨cs, hc, hd⟩ := hx i (by omega)
      obtain ⟨nd, h1, h2, h3⟩ := node hd
      obtain ⟨_, _, h4⟩ := World.cells?_some hc
      rw [h1] at h4
      exact ⟨nd, h4, h2, h3⟩
    obtain ⟨F, hF⟩ : ∃ F : Nat → Nd, ∀ i, i < len → (∀ j, j < 4 → W.cell? ((ad.add (i * 4)).add j) = [Value.int .i64 (F i).k, .string (F i).s, .int .i64 (F i).n, .int .i64 (F i).c][j]?) ∧ (F i).s.size + 25 ≤ 5 * Rows.uptoBulk (D i) ∧ In64 (F i).n := by
      refine ⟨fun i => if h : i < len then Classical.choose (key i h) else ⟨0, ⟨#[]⟩, 0, 0⟩, fun i hi => ?_⟩
      have := Classical.choose_spec (key i hi)
      simp only [hi, dif_pos]
      exact this
    refine ⟨(List.range len).map F, ⟨some ad, cap, by simp, ?_⟩, ?_, fun nd hnd => ?_⟩
    · by_cases h0 : len = 0
      · exact .inl (by simp [h0])
      · right
        obtain ⟨ab, ao, sp⟩ := ad
        have hc0 := (hF 0 (by omega)).1 0 (by omega)
        have hsp := World.cell?_spot hc0
        simp only [Addr.add] at hsp
        have hsp' : sp = none := by
          revert hsp
          cases sp <;> simp [Addr.add]
        subst hsp'
        refine ⟨ab, ao, rfl, ?_, fun i hi => ?_⟩
        · have := World.block_lt_of_cell? _ _ hc0
          simpa [addM] using this
        · have hi' : i < len := by simpa using hi
          have hc := (hF i hi').1
          have g0 := hc 0 (by omega)
          have g1 := hc 1 (by omega)
          have g2 := hc 2 (by omega)
          have g3 := hc 3 (by omega)
          rw [addM, addM] at g0 g1 g2 g3
          simp only [List.getElem_map, List.getElem_range]
          exact ⟨by simpa using g0, by simpa using g1, by simpa using g2, by simpa using g3⟩
    · rw [hxx]
      simp only [Rows.uptoBulk]
      have := ndW_bulk ((List.range len).map F) ((List.range len).map D) (by simp) (fun i h1 h2 => by
        have hi' : i < len := by simpa using h1
        simp only [List.getElem_map, List.getElem_range]
        exact (hF i hi').2.1)
      omega
    · obtain ⟨i, hi, rfl⟩ := List.mem_map.1 hnd
      exact (hF i (by simpa using hi)).2.2
end Go.Proofs.YtakldjdohgmeiaaDoor.Arg

namespace Go.Proofs.YtakldjdohgmeiaaDoor.Arg
open Go.ChangeShapes Go.WideShapes Go.ChangeAt Go.RowKit
open Mm Pl
set_option maxRecDepth 20000

def sumL (ws : List (List UInt8)) : Nat := (ws.map List.length).sum
theorem cellsU8 : Tryd.prog.cellsOf 5 = 1 := by kernel_rfl
theorem addN (b o n : Nat) : (⟨b, o, none⟩ : Addr).add n = ⟨b, o + n, none⟩ := by
  unfold Addr.add; split <;> simp_all
/-- bytes that came in -/
theorem bytes {H : Type} {enc : TypeId × Value → H} {W : World} {fuel : Nat} {v : Value} {x : DataW H × List MemPlace}
    (h : DataW.trod enc Tryd.prog W 0 (fun _ => true) true fuel 24 [v] = some x) : ∃ l : List UInt8, Bs W v l ∧ l.length ≤ 9223372036854775807 := by
  rcases Go.Deep.open_slice1 Tryd.underlying24 cellsU8 h with ⟨e3, _⟩ | ⟨ad, len, cap, m, n, V, D, Pq, e3, _, hlc, hcap, hm, _, hx⟩
  · obtain rfl := List.cons.inj e3 |>.1
    exact ⟨[], ⟨none, 0, rfl, Nat.le_refl _, fun _ => rfl, fun h => absurd h (by simp)⟩, by simp⟩
  · obtain rfl := List.cons.inj e3 |>.1
    have hlm : len ≤ m := by rw [hm]; split <;> omega
    have key : ∀ i, i < len → ∃ c : UInt8, W.cell? (ad.add i) = some (.int .u8 (c.toNat : Int)) := by
      intro i hi
      obtain ⟨hc, hd⟩ := hx i (by omega)
      obtain ⟨k, hk, _, hw⟩ := DataW.trod_int Tryd.underlying5 hd
      obtain e := List.cons.inj hk |>.1
      have hw' : IntKind.u8.min ≤ k ∧ k ≤ IntKind.u8.max := by simpa [Lit.wf] using hw
      have e1 : IntKind.u8.min = 0 := by decide
      have e2 : IntKind.u8.max = 255 := by decide
      refine ⟨UInt8.ofNat k.toNat, ?_⟩
      rw [hc, e]
      congr 2
      rw [UInt8.toNat_ofNat']
      omega
    obtain ⟨F, hF⟩ : ∃ F : Nat → UInt8, ∀ i, i < len → W.cell? (ad.add i) = some (.int .u8 (F i).toNat) := by
      refine ⟨fun i => if h : i < len then Classical.choose (key i h) else 0, fun i hi => ?_⟩
      rw [Classical.choose_spec (key i hi)]
      simp only [hi, dif_pos]
    refine ⟨(List.range len).map F, ⟨some ad, cap, by simp, by simpa using hlc, fun e => (by cases e), fun h0 => ?_⟩, by simp; unfold maxLen at hcap; omega⟩
    have h0' : 0 < len := by simpa using h0
    obtain ⟨ab, ao, sp⟩ := ad
    have hsp := World.cell?_spot (hF 0 h0')
    simp only [Addr.add] at hsp
    subst hsp
    refine ⟨ab, ao, rfl, fun j hj => ?_⟩
    have hj' : j < len := by simpa using hj
    have := hF j hj'
    rw [addN] at this
    rw [this]
    simp [Pl.at_, List.getElem?_range hj']
theorem bulk_pos {H : Type} (d : DataW H) : 0 < Rows.uptoBulk d := by
  cases d with
  | lit l => cases l <;> simp [Rows.uptoBulk]
  | _ => simp [Rows.uptoBulk]
theorem bulk_len {H : Type} : ∀ l : List (DataW H), l.length ≤ Rows.uptoBulkAll l
  | [] => by simp [Rows.uptoBulkAll]
  | d :: l => by
    have h1 := bulk_len l
    have h2 := bulk_pos d
    simp only [Rows.uptoBulkAll, List.length_cons]
    omega
theorem bulk_mem {H : Type} : ∀ {l : List (DataW H)} {d : DataW H}, d ∈ l → Rows.uptoBulk d ≤ Rows.uptoBulkAll l
  | e :: l, d, h => by
    simp only [Rows.uptoBulkAll]
    rcases List.mem_cons.1 h with rfl | h
    · omega
    · have := bulk_mem h
      omega
theorem bulk_texts {H : Type} : ∀ l : List (List UInt8), Rows.uptoBulkAll (l.map fun s => (DataW.lit (.string s) : DataW H)) = sumL l + l.length
  | [] => by simp [Rows.uptoBulkAll, sumL]
  | s :: l => by
    have := bulk_texts (H := H) l
    simp only [List.map_cons, Rows.uptoBulkAll, Rows.uptoBulk, sumL, List.sum_cons, List.length_cons] at this ⊢
    omega
/-- bytes that came in, and how many -/
theorem bytesU {H : Type} {enc : TypeId × Value → H} {W : World} {fuel : Nat} {v : Value} {x : DataW H × List MemPlace}
    (h : DataW.trod enc Tryd.prog W 0 (fun _ => true) true fuel 24 [v] = some x) : ∃ l : List UInt8, Bs W v l ∧ l.length ≤ Rows.uptoBulk x.1 := by
  obtain ⟨l, hl, _⟩ := bytes h
  refine ⟨l, hl, ?_⟩
  obtain ⟨a, c, e, _⟩ := hl
  rcases Go.Deep.open_slice1 Tryd.underlying24 cellsU8 h with ⟨e3, _⟩ | ⟨ad, len, cap, m, n, V, D, Pq, e3, _, _, _, _, hxx, _⟩
  · obtain e4 := List.cons.inj e3 |>.1
    rw [e] at e4
    injection e4 with _ e4 _
    omega
  · obtain e4 := List.cons.inj e3 |>.1
    rw [e] at e4
    injection e4 with _ e4 _
    rw [hxx]
    simp only [Rows.uptoBulk]
    have := bulk_len ((List.range len).map D)
    rw [List.length_map, List.length_range] at this
    omega
/-- a row of texts that came in -/
theorem texts {H : Type} {enc : TypeId × Value → H} {W : World} {fuel : Nat} {v : Value} {x : DataW H × List MemPlace}
    (h : DataW.trod enc Tryd.prog W 0 (fun _ => true) true fuel 22 [v] = some x) : ∃ l : List (List UInt8), RowT W v l ∧ l.length + sumL l ≤ Rows.uptoBulk x.1 := by
  rcases Go.Deep.open_slice1 Tryd.underlying22 Fr.cellsStr h with ⟨e3, _⟩ | ⟨ad, len, cap, m, n, V, D, Pq, e3, _, hlc, hcap, hm, hxx, hx⟩
  · obtain rfl := List.cons.inj e3 |>.1
    exact ⟨[], ⟨none, 0, rfl, Nat.le_refl _, fun h => absurd h (by simp)⟩, by simp [sumL]⟩
  · obtain rfl := List.cons.inj e3 |>.1
    have hlm : len ≤ m := by rw [hm]; split <;> omega
    have key : ∀ i, i < len → ∃ s : List UInt8, W.cell? (ad.add i) = some (.string (B s)) ∧ D i = .lit (.string s) := by
      intro i hi
      obtain ⟨hc, hd⟩ := hx i (by omega)
      obtain ⟨s, hk, hd2, _⟩ := DataW.trod_string Tryd.underlying9 hd
      obtain e := List.cons.inj hk |>.1
      refine ⟨L s, by rw [hc, e, B_L], ?_⟩
      injection hd2
    obtain ⟨F, hF⟩ : ∃ F : Nat → List UInt8, ∀ i, i < len → W.cell? (ad.add i) = some (.string (B (F i))) ∧ D i = .lit (.string (F i)) := by
      refine ⟨fun i => if h : i < len then Classical.choose (key i h) else [], fun i hi => ?_⟩
      have := Classical.choose_spec (key i hi)
      simp only [hi, dif_pos]
      exact this
    refine ⟨(List.range len).map F, ⟨some ad, cap, by simp, by simpa using hlc, fun h0 => ?_⟩, ?_⟩
    · have h0' : 0 < len := by simpa using h0
      obtain ⟨ab, ao, sp⟩ := ad
      have hsp := World.cell?_spot (hF 0 h0').1
      simp only [Addr.add] at hsp
      subst hsp
      refine ⟨ab, ao, rfl, fun i s hs => ?_⟩
      have hi : i < len := by
        have := (List.getElem?_eq_some_iff.1 hs).1
        simpa using this
      rw [List.getElem?_map, List.getElem?_range hi] at hs
      injection hs with hs
      subst hs
      have := (hF i hi).1
      rw [addN] at this
      exact this
    · rw [hxx]
      simp only [Rows.uptoBulk]
      have e : (List.range len).map D = ((List.range len).map F).map fun s => (DataW.lit (.string s) : DataW H) := by
        rw [List.map_map]
        refine List.map_congr_left fun i hi => ?_
        exact (hF i (by simpa using hi)).2
      rw [e, bulk_texts]
      omega
end Go.Proofs.YtakldjdohgmeiaaDoor.Arg
namespace Go.Proofs.YtakldjdohgmeiaaDoor.Fr
open Go.Shelf Go.Lib
set_option maxRecDepth 100000
theorem u8 {W : World} {r r' : List (String × DataW Unit)} (h1 : laidMet Tryd.prog (("unicode/utf8.acceptRanges", Rows.laid_unicode_utf8_acceptRanges) :: r) W) (h2 : laidMet Tryd.prog (("unicode/utf8.first", Rows.laid_unicode_utf8_first) :: r') W) : Mm.U8 W := by
  refine Mm.u8_of (utf8Tabs_of_readsT u8types u8extra ?_ ?_)
  · have h := laidMet.reads h2 (List.mem_cons_self)
    have e : Rows.laid_unicode_utf8_first = firstData := by kernel_rfl
    rw [e] at h
    exact h
  · have h := laidMet.reads h1 (List.mem_cons_self)
    have e : Rows.laid_unicode_utf8_acceptRanges = acceptData := by kernel_rfl
    rw [e] at h
    exact h
theorem maxI {W : World} (h : W.ShapedOpen Tryd.prog) : Mm.MaxI W := by
  refine Mm.maxI_of ?_
  obtain ⟨cs, hh, hs, hr⟩ := h.1 6 #[.int .i64 0] 3 (of_decide_eq_true (by kernel_rfl)) (by kernel_rfl)
  obtain ⟨ts, hts, _, hall⟩ := hr (by kernel_rfl)
  rw [show Tryd.prog.cellTypes Tryd.prog.depth 3 = some [3] by kernel_rfl] at hts
  cases hts
  have h1 : 0 < cs.size := by rw [hs]; decide
  have h0 : cs[0]? = some cs[0] := Array.getElem?_eq_some_iff.2 ⟨h1, rfl⟩
  obtain ⟨u, hu', hok⟩ := hall 0 cs[0] h0
  have : u = 3 := by
    injection hu' with hu'
    exact hu'.symm
  subst this
  have hcell : W.cell? ⟨6, 0, none⟩ = some cs[0] := by
    unfold World.cell?
    rw [hh]
    exact h0
  rw [hcell]
  unfold Cell.ok at hok
  rw [Tryd.underlying3] at hok
  generalize cs[0] = v at hok ⊢
  cases v with
  | int kd n =>
    by_cases hk : kd = .i64
    · subst hk
      exact ⟨n, rfl⟩
    · exfalso
      revert hok
      simp
      intro h
      exact absurd h hk
  | _ => simp at hok
end Go.Proofs.YtakldjdohgmeiaaDoor.Fr
