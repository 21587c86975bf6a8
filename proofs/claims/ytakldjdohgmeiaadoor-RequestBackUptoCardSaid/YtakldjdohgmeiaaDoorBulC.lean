/- reply's Bulk, Bulks, Request. Conditions stand in each law. -/
import Derived.Test.YtakldjdohgmeiaaDoorBulB
import Derived.Test.YtakldjdohgmeiaaDoorParJ
namespace Go.Proofs.YtakldjdohgmeiaaDoor
open Go.RowKit
set_option maxRecDepth 20000

theorem Mm.OwnB.base0 {w : World} {b b' : Nat} {v : Value} {l : List UInt8} (h : Mm.OwnB w b v l) (hb : b' ≤ b) : Mm.OwnB w b' v l := by
  obtain ⟨hl, h0 | ⟨g, cap, cur, hv, hg, r⟩⟩ := h
  · exact ⟨hl, .inl h0⟩
  · exact ⟨hl, .inr ⟨g, cap, cur, hv, Nat.le_trans hb hg, r⟩⟩
theorem bulk_walk (s : ByteArray) (w : World) : Calls Tryd.prog 31 #[.string s] w fun e w' => e = .returned (.agg #[.int .i64 4, .string s, .int .i64 0, .slice none 0 0]) ∧ Below w.heap.size w w' := by
  go_enter Tryd.func31, Tryd.ntmps31
  go_wp2_with (refine Mm.wp_store4 _ rfl _ _ rfl w.heap.size _ _ _ _ _ _ (heap_alloc_new w _) rfl rfl rfl (by intro u hu; simp at hu; rcases hu with rfl | rfl | rfl | rfl <;> rfl) ?_; intro w4 hw4 hs4 hg4; have HW4 := Pl.hid hw4; have HG4 := Pl.hid hg4; clear hw4 hs4 hg4)
  (try simp only [Exit.inBlock, Exit.then])
  refine bodyPost_ret (Mm.res_cell rfl _ w4 w.heap.size _ _ _ _ _ _ rfl HW4.out) rfl ?_
  exact ⟨rfl, ((Below.refl _ _).alloc (Nat.le_refl _) _).grown HG4.out (by simp) (fun k hk => by injection hk with hk; omega)⟩

set_option maxHeartbeats 8000000 in
theorem bulks_walk (v : Value) (ws : List (List UInt8)) (w : World) (hv : Mm.RowT w v ws) (hn : ws.length ≤ 1048576) (hs : ∀ s ∈ ws, s.length ≤ 1048576) :
    Calls Tryd.prog 13 #[v] w fun e w' => ∃ c0 c1 c2 c3, e = .returned (.agg #[c0, c1, c2, c3]) ∧ Mm.RepX w' (Pl.reqT ws) [c0, c1, c2, c3] ∧ Below w.heap.size w w' := by
  obtain ⟨a, c, rfl, hc, hcell⟩ := hv
  obtain ⟨n, hnn⟩ : ∃ n, n = ws.length := ⟨_, rfl⟩
  rw [← hnn] at hc hcell hn ⊢
  have HNN := Pl.hid hnn
  have HCELL := Pl.hid hcell
  have HSS := Pl.hid hs
  clear hcell hnn hs
  go_enter Tryd.func13, Tryd.ntmps13
  go_wp2_with fail
  generalize hw3 : World.alloc _ _ = w3
  obtain ⟨p, hp⟩ : ∃ p, p = w.heap.size + 1 := ⟨_, rfl⟩
  obtain ⟨r, hr⟩ : ∃ r, r = w.heap.size := ⟨_, rfl⟩
  have HP3 : Hid (w3.heap[p]? = some (.cells #[.int .i64 6, .string ⟨#[]⟩, .int .i64 0, .slice none 0 0] 31 (0, 0))) := by
    show _ = _
    rw [← hw3, hp]
    have := heap_alloc_new (w.alloc (.cells #[.int .i64 0, .string ⟨#[]⟩, .int .i64 0, .slice none 0 0] 31)) (.cells #[.int .i64 6, .string ⟨#[]⟩, .int .i64 0, .slice none 0 0] 31)
    simpa using this
  have HR3 : Hid (w3.heap[r]? = some (.cells #[.int .i64 0, .string ⟨#[]⟩, .int .i64 0, .slice none 0 0] 31 (0, 0))) := by
    show _ = _
    rw [← hw3, hr, Below.heap_alloc _ _ _ (by simp)]
    exact heap_alloc_new w _
  have HB3 : Hid (Below w.heap.size w w3) := by rw [← hw3]; exact ((Below.refl _ _).alloc (Nat.le_refl _) _).alloc (by simp) _
  have HS3 : Hid (w3.heap.size = w.heap.size + 2) := by show _ = _; rw [← hw3]; simp
  have HPR : Hid (p = w.heap.size + 1 ∧ r = w.heap.size) := ⟨hp, hr⟩
  obtain ⟨lo, hlo⟩ : ∃ lo, lo = w3.heap.size := ⟨_, rfl⟩
  have HLO : Hid (lo = w.heap.size + 2 ∧ lo = w3.heap.size) := ⟨hlo.trans HS3.out, hlo⟩
  rw [← hp, ← hr]
  clear hw3 hp hr hlo
  go_loopw [9] (fun iv wr => ∃ (i : Nat) (lv : Value), iv = .int .i64 i ∧ i ≤ n ∧ Hid (wr.heap[p]? = some (.cells #[.int .i64 6, .string ⟨#[]⟩, .int .i64 0, lv] 31 (0, 0))) ∧
      Hid (wr.heap[r]? = some (.cells #[.int .i64 0, .string ⟨#[]⟩, .int .i64 0, .slice none 0 0] 31 (0, 0))) ∧ Hid (Mm.OwnL wr lo lv ((ws.take i).map Pl.bulkT)) ∧ Hid (Below w.heap.size w wr ∧ lo ≤ wr.heap.size)) (fun iv _ => n - (intOf iv).toNat)
  case atStart => exact ⟨0, .slice none 0 0, rfl, Nat.zero_le _, HP3, HR3, Mm.OwnL.nil w3 lo, HB3.out, Nat.le_of_eq HLO.out.2⟩
  case round =>
    obtain ⟨i, lv, rfl, hi, HP, HR, HO, HBr⟩ := hrel
    rcases Nat.lt_or_ge i n with hlt | hge
    · obtain ⟨g, o, rfl, hm⟩ := HCELL.out (by omega)
      obtain ⟨s, hs⟩ : ∃ s, ws[i]? = some s := ⟨_, List.getElem?_eq_getElem (by rw [← HNN.out]; exact hlt)⟩
      have hc0 := hm i s hs
      have hcs := (HBr.out.1.cell (p := ⟨g, o + i, none⟩) (World.block_lt_of_cell? _ _ hc0)).trans hc0
      have HS := Pl.hid hs
      have hpl : p < wr.heap.size := (Array.getElem?_eq_some_iff.1 HP.out).1
      have HPLT := Pl.hid hpl
      have HLN : Hid (((ws.take i).map Pl.bulkT).length < 1073741824) := by show _ < _; rw [List.length_map, List.length_take]; omega
      have p3 : wr.cell? ⟨p, 3, none⟩ = some lv := Mm.cellOf HP.out rfl
      have ST5 : Hid (∀ (w5 : World), Below wr.heap.size wr w5 → w5.cell? ⟨p, 3, none⟩ = some lv ∧ (w5.alloc (.cells #[.int .i64 4, .string (Pl.B s), .int .i64 0, .slice none 0 0] 31)).cell? ⟨p, 3, none⟩ = some lv ∧
          Hid (Mm.OwnT w5 wr.heap.size (Pl.bulkT s) [.int .i64 4, .string (Pl.B s), .int .i64 0, .slice none 0 0]) ∧ Hid (Below wr.heap.size wr w5) ∧ Hid (w5.heap[p]? = some (.cells #[.int .i64 6, .string ⟨#[]⟩, .int .i64 0, lv] 31 (0, 0))) ∧ Hid (w5.heap[r]? = some (.cells #[.int .i64 0, .string ⟨#[]⟩, .int .i64 0, .slice none 0 0] 31 (0, 0)))) := fun w5 hb => by
        have h5 := (hb.block p HPLT.out).trans HP.out
        have c5 : w5.cell? ⟨p, 3, none⟩ = some lv := Mm.cellOf h5 rfl
        exact ⟨c5, (World.cell?_alloc_old _ _ _ (Nat.ne_of_lt (Nat.lt_of_lt_of_le HPLT.out hb.size))).trans c5, (Mm.OwnL.nil w5 wr.heap.size).rep 4 (Pl.B s) 0, hb, h5, (hb.block r (Array.getElem?_eq_some_iff.1 HR.out).1).trans HR.out⟩
      have ST6 : Hid (∀ (w5 w6 : World), w5.heap[p]? = some (.cells #[.int .i64 6, .string ⟨#[]⟩, .int .i64 0, lv] 31 (0, 0)) → Below lo w5 w6 → w6.cell? ⟨p, 3, none⟩ = some lv ∧ w6.frozen? ⟨p, 3, none⟩ = false) := fun w5 w6 h5 hb => by
        have h6 := (hb.block p (by have := HLO.out; have := HPR.out; omega)).trans h5
        exact ⟨Mm.cellOf h6 rfl, Mm.frozenOf h6⟩
      clear hm hc0 hs
      go_wp2_with fail
      clear hcs
      go_region_law (first
        | (go_simp; go_at_call 31; refine (bulk_walk (Pl.B s) _).mono ?_; rintro e w5 ⟨rfl, hb5⟩; obtain ⟨p5, p5a, HT5, HB5, HP5, HR5⟩ := ST5.out w5 (by first | exact hb5 | exact Mm.undrew hb5); clear hb5)
        | (refine Mm.step_appR _ (by rfl) _ _ (by rfl) wr w5 lo lv ((ws.take i).map Pl.bulkT) (by rfl) HO.out (Pl.bulkT s) [.int .i64 4, .string (Pl.B s), .int .i64 0, .slice none 0 0] HT5.out (by rfl) (by rfl) HB5.out HLN.out HBr.out.2 ?_; intro v6 w6 ho6 hb6 _; obtain ⟨a6, k6, rfl⟩ := ho6.val; obtain ⟨p6, pf6⟩ := ST6.out w5 w6 HP5.out hb6; have HO6 := Pl.hid ho6; have HB6 := Pl.hid hb6; clear ho6 hb6))
      all_goals
        have HV : Hid (((ws.take i).map Pl.bulkT ++ [Pl.bulkT s]).length = min i ws.length + 1) := by show _ = _; simp
        have HVT : Hid ((ws.take i).map Pl.bulkT ++ [Pl.bulkT s] = (ws.take (i + 1)).map Pl.bulkT) := by show _ = _; rw [List.take_add_one, HS.out]; simp
        have HO6' : Hid (Mm.OwnL w6 lo (.slice a6 (min i ws.length + 1) k6) ((ws.take (i + 1)).map Pl.bulkT)) := by
          have := HO6.out
          rw [HV.out, HVT.out] at this
          exact this
        have HP7 := Pl.hid (Mm.heapSet ((HB6.out.block p (by have := HLO.out; have := HPR.out; omega)).trans HP5.out) 3 (.slice a6 (min i ws.length + 1) k6))
        have HG7 := Pl.hid (Mm.grownSet w6 p 3 (.slice a6 (min i ws.length + 1) k6))
        generalize World.setCell w6 _ _ = w7 at HP7 HG7 ⊢
        clear p6 pf6 p5 p5a p3 HO6
        go_wp2_with fail
        have hlo := HLO.out
        have hpr := HPR.out
        have h5z := HB5.out.size
        have h6z := HB6.out.size
        have hbr := HBr.out.2
        refine ⟨⟨i + 1, _, by go_num, hlt, HP7, ?_, ?_, ?_⟩, by simp [intOf]; omega⟩
        · show _ = _
          have hrl := (Array.getElem?_eq_some_iff.1 HR.out).1
          rw [HG7.out.block r (by omega) (by intro e; cases e; omega), HB6.out.block r (by omega)]
          exact HR5.out
        · exact HO6'.out.keepLo fun g hg hgl => HG7.out.block g hgl (by intro e; cases e; omega)
        · refine ⟨(HBr.out.1.trans (((HB5.out.mono (by omega)).trans (HB6.out.mono (by omega))))).grown HG7.out (by have := HBr.out.1.size; omega) (fun k hk => by cases hk; omega), ?_⟩
          have := HG7.out.size
          omega
    · have hie : i = n := by omega
      subst hie
      have HO' : Hid (Mm.OwnL wr lo lv (ws.map Pl.bulkT)) := by have := HO.out; rw [HNN.out, List.take_length] at this; exact this
      have p0 := Mm.cellOf (i := 0) (v := .int .i64 6) HP.out rfl
      have p1 := Mm.cellOf (i := 1) (v := .string ⟨#[]⟩) HP.out rfl
      have p2 := Mm.cellOf (i := 2) (v := .int .i64 0) HP.out rfl
      have p3 := Mm.cellOf (i := 3) (v := lv) HP.out rfl
      go_wp2_with (refine Mm.wp_store4 _ rfl _ _ rfl r _ _ (.int .i64 6) (.string ⟨#[]⟩) (.int .i64 0) lv HR.out rfl rfl rfl (by intro u hu; simp only [List.mem_cons, List.mem_nil_iff, or_false] at hu; rcases hu with rfl | rfl | rfl | rfl <;> first | rfl | exact HO'.out.one.1) ?_; intro wf hwf hsf hgf; have HWF := Pl.hid hwf; have HG := Pl.hid hgf; clear hwf hsf hgf)
      have hlo := HLO.out
      have hpr := HPR.out
      have hbr := HBr.out.2
      (try simp only [Exit.inBlock, Exit.then])
      refine bodyPost_ret (Mm.res_cell rfl _ wf r _ _ _ _ _ _ rfl HWF.out) rfl ?_
      refine ⟨_, _, _, _, rfl, ?_, HBr.out.1.grown HG.out (by omega) (fun k hk => by cases hk; omega)⟩
      refine ((HO'.out.rep 6 ⟨#[]⟩ 0).keepLo (fun g hg hgl => HG.out.block g hgl ?_)).x
      intro e
      cases e
      omega
theorem request_walk (v : Value) (ws : List (List UInt8)) (W w : World) (hT : Mm.Tab W) (hW : Below W.heap.size W w) (hv : Mm.RowT w v ws) (hn : ws.length ≤ 1048576) (hs : ∀ s ∈ ws, s.length ≤ 1048576) (hl : (Pl.reqE ws).length ≤ 1099511627776) :
    Calls Tryd.prog 11 #[v] w fun e w' => ∃ v', e = .returned v' ∧ Mm.OwnB w' w.heap.size v' (Pl.reqE ws) ∧ Below w.heap.size w w' := by
  have HT := Pl.hid hT
  have HW := Pl.hid hW
  have HV := Pl.hid hv
  clear hT hW hv
  go_enter Tryd.func11, Tryd.ntmps11
  go_wp2_with fail
  refine (bulks_walk v ws w HV.out hn hs).mono ?_
  rintro e w1 ⟨c0, c1, c2, c3, rfl, hx, hb1⟩
  have HB1 := Pl.hid hb1
  have HX := Pl.hid hx
  clear hx hb1
  go_wp2_with fail
  refine (lay_arr ws c0 c1 c2 c3 w1.heap.size _ [] w1 w1 (HT.out.on (HW.out.trans (HB1.out.mono HW.out.size))) HX.out (Below.refl _ _) (Nat.le_refl _) (Nat.le_refl _) (Mm.ownB_nil _ _) (by simpa using hl) (by omega) (fun s h => by have := hs s h; omega)).mono ?_
  rintro e w2 ⟨v2, rfl, ho2, hb2, _⟩
  have HO2 := Pl.hid ho2
  have HB2 := Pl.hid hb2
  clear ho2 hb2
  go_wp2_with fail
  go_ret
  refine ⟨_, rfl, ?_, HB1.out.trans (HB2.out.mono HB1.out.size)⟩
  have := HO2.out
  rw [List.nil_append] at this
  exact this.base0 HB1.out.size
end Go.Proofs.YtakldjdohgmeiaaDoor
