/- A parser's word: Go's word. Conditions stand in the law. -/
import Derived.Test.YtakldjdohgmeiaaDoorParE
namespace Go.Proofs.YtakldjdohgmeiaaDoor
open Go.RowKit
set_option maxRecDepth 20000

theorem Mm.ownsRow_slice {w : World} {b : Nat} {t : TypeId} {k : Nat} {v : Value} {n : Nat} {cs : List Value} (h : w.ownsRow b t k v n cs) : ∃ a m c, v = .slice a m c := by
  rcases h.2 with ⟨rfl, _⟩ | ⟨g, cap, cur, rfl, _⟩
  · exact ⟨_, _, _, rfl⟩
  · exact ⟨_, _, _, rfl⟩

set_option maxHeartbeats 8000000 in
theorem word_walk (p g o c : Nat) (l : List UInt8) (bv : Value) (st : Pl.Pst) (F : Nat → Prop) (W w : World) (_ : W.heap.size ≤ p) (hR : Mm.RErr W) (hW : Below W.heap.size W w) (_ : l.length ≤ 140737488351232) (hc : l.length ≤ c) (h : Mm.BytesAt w g o l)
    (hp : Mm.PQ w p bv st F) (he : st.err = false) (hn0 : 0 ≤ st.need) (hn1 : st.need ≤ 1048576) (hf0 : 0 < st.left) (hf1 : st.left ≤ 1024) (hu : st.used ≤ 4503599627370496) (hwd : st.words.length ≤ 1099511627776) (hrd : st.ready.length ≤ 1099511627776) :
    Calls Tryd.prog 71 #[.pointer (some ⟨p, 0, none⟩), .slice (some ⟨g, o, none⟩) l.length c] w fun e w' => e = .returned (.int .i64 ((Pl.wordM st l).1 : Int)) ∧ ∃ F', Mm.PQ w' p bv (Pl.wordM st l).2 F' ∧ Mm.Chg w F w' F' := by
  obtain ⟨T3, x3, hx3⟩ := (hR.on hW).here 3 (by simp)
  obtain ⟨wv, rv, ev, rows, hv, hF⟩ := hp
  obtain ⟨n, hn⟩ := Int.eq_ofNat_of_zero_le hn0
  rw [hn] at hn1
  have HM := Pl.hid h
  have HV := Pl.hid hv
  have He := Pl.hid he
  have HN := Pl.hid hn
  have hpl := hv.lt
  have HPL := Pl.hid hpl
  have HF := Pl.hid hF
  have c5 := hv.cell 5 (.int .i64 (n : Int)) (by show some (Value.int .i64 st.need) = _; rw [hn])
  have HRD : Hid (rows.length ≤ 1099511627776) := by show _ ≤ _; rw [hv.2.2.2.1.1]; exact hrd
  clear hR hW h hv he hrd hF
  unfold Pl.wordM
  have htn : st.need.toNat = n := by rw [hn]; rfl
  rw [htn]
  clear htn hn hn0
  rcases Nat.lt_or_ge n l.length with h1 | h1
  · have b1 := HM.out n h1
    have h13 := Pl.at_is (l := l) (n := n) (k := 13) h1 (by decide)
    rw [show UInt8.ofNat 13 = 13 from rfl] at h13
    cases hb : (Pl.at_ l n == ((13 : Nat) : Int)) with
    | false =>
      rw [if_pos (.inl ⟨h1, fun e => by rw [h13.1 e] at hb; cases hb⟩)]
      generalize Pl.at_ l n = a0 at b1 hb
      clear h13
      have hb' : (a0 != 13) = true := by simpa [bne] using hb
      clear hb
      go_enter Tryd.func71, Tryd.ntmps71
      go_wp2_with (first | (refine Mm.wp_storeF _ rfl 53 _ _ (by rfl) (by kernel_rfl) p 7 90 (Mm.cellsP bv wv rv ev st) (.iface T3 x3) HV.out.1 (by rfl) (by rfl) (by simp [Mm.cellsP]) rfl rfl ?_; intro w3 h3 hz3 hg3; clear hz3))
      go_ret
      refine ⟨rfl, F, ⟨wv, rv, .iface T3 x3, rows, HV.out.store hg3 h3 rfl rfl (.inl ⟨rfl, _, _, rfl⟩), HF.out⟩, Mm.Chg.grown hg3 (fun g e => by rw [HF.out]; injection e with e; exact .inl e.symm) (fun _ h => .inl h)⟩
    | true =>
      rcases Nat.lt_or_ge (n + 1) l.length with h2 | h2
      · have b2 := HM.out (n + 1) h2
        have h10 := Pl.at_is (l := l) (n := n + 1) (k := 10) h2 (by decide)
        rw [show UInt8.ofNat 10 = 10 from rfl] at h10
        cases hb2 : (Pl.at_ l (n + 1) == ((10 : Nat) : Int)) with
        | false =>
          rw [if_pos (.inr ⟨h2, fun e => by rw [h10.1 e] at hb2; cases hb2⟩)]
          generalize Pl.at_ l n = a0 at b1 hb
          generalize Pl.at_ l (n + 1) = a1 at b2 hb2
          clear h13 h10
          have hb' : (a0 != 13) = false := by simpa [bne] using hb
          have hb2' : (a1 != 10) = true := by simpa [bne] using hb2
          clear hb hb2
          go_enter Tryd.func71, Tryd.ntmps71
          go_wp2_with (first | (refine Mm.wp_storeF _ rfl 53 _ _ (by rfl) (by kernel_rfl) p 7 90 (Mm.cellsP bv wv rv ev st) (.iface T3 x3) HV.out.1 (by rfl) (by rfl) (by simp [Mm.cellsP]) rfl rfl ?_; intro w3 h3 hz3 hg3; clear hz3))
          go_ret
          refine ⟨rfl, F, ⟨wv, rv, .iface T3 x3, rows, HV.out.store hg3 h3 rfl rfl (.inl ⟨rfl, _, _, rfl⟩), HF.out⟩, Mm.Chg.grown hg3 (fun g e => by rw [HF.out]; injection e with e; exact .inl e.symm) (fun _ h => .inl h)⟩
        | true =>
          rw [if_neg (by rintro (⟨_, h⟩ | ⟨_, h⟩); exact h (h13.2 hb); exact h (h10.2 hb2)), if_neg (by omega)]
          generalize Pl.at_ l n = a0 at b1 hb
          generalize Pl.at_ l (n + 1) = a1 at b2 hb2
          clear h13 h10
          have hb' : (a0 != 13) = false := by simpa [bne] using hb
          have hb2' : (a1 != 10) = false := by simpa [bne] using hb2
          clear hb hb2
          have c2 := HV.out.cell 2 wv rfl
          have hcv0 := Mm.conv_at w.drew g o n n (l.take n) (by rw [List.length_take]; omega) (HM.out.take n)
          have hnc : n ≤ c := by omega
          have hca : (w.drew.alloc (.cells #[.string (Pl.B (l.take n))] 9)).cell? ⟨p, 2, none⟩ = some wv := (World.cell?_alloc_old _ _ _ (Nat.ne_of_lt hpl)).trans c2
          have hwbig : st.words.length < 8796093022207 := by omega
          have HST : Hid (∀ w6, (w.drew.alloc (.cells #[.string (Pl.B (l.take n))] 9)).grownBy w6 wv.ownBlock → w6.heap[p]? = some (.cells (Mm.cellsP bv wv rv ev st) 90 (0, 0)) ∧ w6.cell? ⟨p, 2, none⟩ = some wv ∧ w6.frozen? ⟨p, 2, none⟩ = false) := fun w6 hg => by
            have h6 := (hg.block p (by simp; have := HPL.out; omega) (fun e => by have := (HV.out.2.1.lt p e.symm).1; omega)).trans ((Below.heap_alloc _ _ _ HPL.out).trans HV.out.1)
            exact ⟨h6, Mm.cellOf h6 rfl, Mm.frozenOf h6⟩
          obtain ⟨k, hk⟩ : ∃ k, st.left = k + 1 := ⟨st.left - 1, by omega⟩
          have HK := Pl.hid hk
          cases k with
          | zero =>
            rw [if_pos hk]
            clear hk hf0 hf1
            go_enter Tryd.func71, Tryd.ntmps71
            go_wp2_with fail
            go_region_law (refine Mm.step_appS _ (by rfl) _ _ (by rfl) w.drew (Pl.B (l.take n)) (p + 1) wv st.words (by rfl) HV.out.2.1 (by rfl) (by rfl) hwbig hpl ?_; intro v6 w6 ho6 hg6 hat6; obtain ⟨a6, k6, rfl, _⟩ := ho6.val; obtain ⟨hh6, p6, pf6⟩ := HST.out w6 hg6)
            all_goals
              have elen : (st.words ++ [Pl.L (Pl.B (l.take n))]).length = st.words.length + 1 := by simp
              rw [elen] at ho6 hat6
              have HP7 := Pl.hid (Mm.heapSet hh6 2 (.slice a6 (st.words.length + 1) k6))
              have HG7 := Pl.hid (Mm.grownSet w6 p 2 (.slice a6 (st.words.length + 1) k6))
              generalize World.setCell w6 _ _ = w7 at HP7 HG7 ⊢
              have HO6 := Pl.hid ho6
              have HG6 : Hid ((w.drew.alloc (.cells #[.string (Pl.B (l.take n))] 9)).grownBy w6 wv.ownBlock) := hg6
              have HAT6 : Hid ((Value.slice a6 (st.words.length + 1) k6).ownBlock = wv.ownBlock ∨ (Value.slice a6 (st.words.length + 1) k6).ownBlock = some (w.drew.alloc (.cells #[.string (Pl.B (l.take n))] 9)).heap.size) := hat6
              clear elen ho6 hg6 hat6 hh6 p6 pf6 hca hcv0 c2 b1 b2 c5 hb' hb2' 
            all_goals
              have d3 : w7.cell? ⟨p, 3, none⟩ = some (.int .i64 1) := Mm.cellOf (i := 3) HP7.out (by show some (Value.int .i64 (st.left : Int)) = _; rw [HK.out]; rfl)
              go_wp2_with (first
                | (refine Mm.wp_storeF _ rfl 3 _ _ (by rfl) (by kernel_rfl) p 5 90 _ _ HP7.out (by rfl) (by rfl) (by simp [Mm.cellsP]) rfl rfl ?_; intro w8 h8 hz8 hg8; have H8 := Pl.hid h8; have HG8 := Pl.hid hg8; clear h8 hz8 hg8; have d3 := Mm.cellOf (i := 3) (v := .int .i64 1) H8.out (by show some (Value.int .i64 (st.left : Int)) = _; rw [HK.out]; rfl))
                | (refine Mm.wp_storeF _ rfl 3 _ _ (by rfl) (by kernel_rfl) p 3 90 _ _ H8.out (by rfl) (by rfl) (by simp [Mm.cellsP]) rfl rfl ?_; intro w9 h9 hz9 hg9; have H9 := Pl.hid h9; have HG9 := Pl.hid hg9; clear h9 hz9 hg9; have d1 := Mm.cellOf (i := 1) (v := .int .i64 (st.used : Int)) H9.out rfl; clear d3; have d3 := Mm.cellOf (i := 3) (v := .int .i64 0) H9.out rfl)
                | (refine Mm.wp_storeF _ rfl 3 _ _ (by rfl) (by kernel_rfl) p 1 90 _ _ H9.out (by rfl) (by rfl) (by simp [Mm.cellsP]) rfl rfl ?_; intro w10 h10 hz10 hg10; have H10 := Pl.hid h10; have HG10 := Pl.hid hg10; clear h10 hz10 hg10; clear d1 d3; have d3 := Mm.cellOf (i := 3) (v := .int .i64 0) H10.out rfl))
              have hgg := Mm.gTrans HG7.out (Mm.gTrans HG8.out (Mm.gTrans HG9.out HG10.out))
              have HVX : Hid (Mm.PV w10 p bv { st with words := st.words ++ [Pl.L (Pl.B (l.take n))], need := -1, left := 0, used := st.used + (n + 2) } (.slice a6 (st.words.length + 1) k6) rv ev rows) := HV.out.words HO6.out HG6.out HAT6.out hgg H10.out rfl rfl rfl
              have HCX := Pl.hid (Mm.chgW (rv := rv) (rows := rows) HG6.out HAT6.out hgg)
              have c6 := HVX.out.cell 6 rv rfl
              have c2 := HVX.out.cell 2 (.slice a6 (st.words.length + 1) k6) rfl
              have hpl10 := HVX.out.lt
              have HPL10 := Pl.hid hpl10
              have ca6 : (w10.drew.alloc (.cells #[.slice a6 (st.words.length + 1) k6] 22)).cell? ⟨p, 6, none⟩ = some rv := (World.cell?_alloc_old _ _ _ (Nat.ne_of_lt hpl10)).trans c6
              have ca2 : (w10.drew.alloc (.cells #[.slice a6 (st.words.length + 1) k6] 22)).cell? ⟨p, 2, none⟩ = some (.slice a6 (st.words.length + 1) k6) := (World.cell?_alloc_old _ _ _ (Nat.ne_of_lt hpl10)).trans c2
              have hrb : rows.length < 4398046511103 := by have := HRD.out; omega
              have HSTX : Hid (∀ wy, (w10.drew.alloc (.cells #[.slice a6 (st.words.length + 1) k6] 22)).grownBy wy rv.ownBlock → wy.heap[p]? = some (.cells (Mm.cellsP bv (.slice a6 (st.words.length + 1) k6) rv ev { st with words := st.words ++ [Pl.L (Pl.B (l.take n))], need := -1, left := 0, used := st.used + (n + 2) }) 90 (0, 0)) ∧ wy.cell? ⟨p, 6, none⟩ = some rv ∧ wy.frozen? ⟨p, 6, none⟩ = false) := fun wy hg => by
                have h6 := (hg.block p (by simp; have := HPL10.out; omega) (fun e => by have := (HVX.out.2.2.1.lt p e.symm).1; omega)).trans ((Below.heap_alloc _ _ _ HPL10.out).trans HVX.out.1)
                exact ⟨h6, Mm.cellOf h6 rfl, Mm.frozenOf h6⟩
              clear hgg d3
              go_region_law (refine Mm.step_appC _ (by rfl) _ _ (by rfl) w10.drew (.slice a6 (st.words.length + 1) k6) rfl (p + 1) rv rows (by rfl) HVX.out.2.2.1 (by rfl) (by rfl) hrb hpl10 ?_; intro vy wy hoy hgy haty; obtain ⟨ay, ny, ky, rfl⟩ := Mm.ownsRow_slice hoy; obtain ⟨hhy, py, pfy⟩ := HSTX.out wy hgy)
              all_goals
                have HPY := Pl.hid (Mm.heapSet hhy 6 (.slice ay ny ky))
                have HGY7 := Pl.hid (Mm.grownSet wy p 6 (.slice ay ny ky))
                generalize World.setCell wy _ _ = wz at HPY HGY7 ⊢
                have HOY := Pl.hid hoy
                have HGY : Hid ((w10.drew.alloc (.cells #[.slice a6 (st.words.length + 1) k6] 22)).grownBy wy rv.ownBlock) := hgy
                have HATY : Hid ((Value.slice ay ny ky).ownBlock = rv.ownBlock ∨ (Value.slice ay ny ky).ownBlock = some (w10.drew.alloc (.cells #[.slice a6 (st.words.length + 1) k6] 22)).heap.size) := haty
                clear hoy hgy haty hhy py pfy ca6 ca2 c6 c2
                go_wp2_with (first
                  | (refine Mm.wp_storeF _ rfl 22 _ _ (by rfl) (by kernel_rfl) p 2 90 _ _ HPY.out (by rfl) (by rfl) (by simp [Mm.cellsP]) rfl rfl ?_; intro w11 h11 hz11 hg11; have H11 := Pl.hid h11; have HG11 := Pl.hid hg11; clear h11 hz11 hg11)
                  | (refine Mm.wp_storeF _ rfl 3 _ _ (by rfl) (by kernel_rfl) p 1 90 _ _ H11.out (by rfl) (by rfl) (by simp [Mm.cellsP]) rfl rfl ?_; intro w12 h12 hz12 hg12; have H12 := Pl.hid h12; have HG12 := Pl.hid hg12; clear h12 hz12 hg12))
                go_ret
                have hgz := Mm.gTrans HGY7.out (Mm.gTrans HG11.out HG12.out)
                refine ⟨rfl, Mm.foot p (.slice none 0 0) (.slice ay ny ky) (rows ++ [.slice a6 (st.words.length + 1) k6]), ⟨_, _, ev, _, HVX.out.readied HOY.out HGY.out HATY.out hgz H12.out rfl ?_ rfl, rfl⟩, ?_⟩
                · show st.ready ++ _ = st.ready ++ _
                  rw [Pl.L_B]
                · rw [HF.out]
                  exact HCX.out.trans (Mm.chgR HGY.out HATY.out hgz)
          | succ k =>
            rw [if_neg (by omega)]
            clear hk hf0
            go_enter Tryd.func71, Tryd.ntmps71
            go_wp2_with fail
            go_region_law (refine Mm.step_appS _ (by rfl) _ _ (by rfl) w.drew (Pl.B (l.take n)) (p + 1) wv st.words (by rfl) HV.out.2.1 (by rfl) (by rfl) hwbig hpl ?_; intro v6 w6 ho6 hg6 hat6; obtain ⟨a6, k6, rfl, _⟩ := ho6.val; obtain ⟨hh6, p6, pf6⟩ := HST.out w6 hg6)
            all_goals
              have elen : (st.words ++ [Pl.L (Pl.B (l.take n))]).length = st.words.length + 1 := by simp
              rw [elen] at ho6 hat6
              have HP7 := Pl.hid (Mm.heapSet hh6 2 (.slice a6 (st.words.length + 1) k6))
              have HG7 := Pl.hid (Mm.grownSet w6 p 2 (.slice a6 (st.words.length + 1) k6))
              generalize World.setCell w6 _ _ = w7 at HP7 HG7 ⊢
              have HO6 := Pl.hid ho6
              have HG6 : Hid ((w.drew.alloc (.cells #[.string (Pl.B (l.take n))] 9)).grownBy w6 wv.ownBlock) := hg6
              have HAT6 : Hid ((Value.slice a6 (st.words.length + 1) k6).ownBlock = wv.ownBlock ∨ (Value.slice a6 (st.words.length + 1) k6).ownBlock = some (w.drew.alloc (.cells #[.string (Pl.B (l.take n))] 9)).heap.size) := hat6
              clear elen ho6 hg6 hat6 hh6 p6 pf6 hca hcv0 c2 b1 b2 c5 hb' hb2' 
            all_goals
              have d3 : w7.cell? ⟨p, 3, none⟩ = some (.int .i64 ((k : Int) + 2)) := Mm.cellOf (i := 3) HP7.out (by show some (Value.int .i64 (st.left : Int)) = _; rw [HK.out]; rfl)
              have hkk : (k : Int) ≤ 1024 := by have := HK.out; omega
              have hk1 : ((k : Int) + 2 - 1 == 0) = false := beq_eq_false_iff_ne.2 (by omega)
              go_wp2_with (first
                | (refine Mm.wp_storeF _ rfl 3 _ _ (by rfl) (by kernel_rfl) p 5 90 _ _ HP7.out (by rfl) (by rfl) (by simp [Mm.cellsP]) rfl rfl ?_; intro w8 h8 hz8 hg8; have H8 := Pl.hid h8; have HG8 := Pl.hid hg8; clear h8 hz8 hg8; have d3 := Mm.cellOf (i := 3) (v := .int .i64 ((k : Int) + 2)) H8.out (by show some (Value.int .i64 (st.left : Int)) = _; rw [HK.out]; rfl))
                | (refine Mm.wp_storeF _ rfl 3 _ _ (by rfl) (by kernel_rfl) p 3 90 _ _ H8.out (by rfl) (by rfl) (by simp [Mm.cellsP]) rfl rfl ?_; intro w9 h9 hz9 hg9; have H9 := Pl.hid h9; have HG9 := Pl.hid hg9; clear h9 hz9 hg9; have d1 := Mm.cellOf (i := 1) (v := .int .i64 (st.used : Int)) H9.out rfl; clear d3; have d3 := Mm.cellOf (i := 3) (v := .int .i64 ((k : Int) + 2 - 1)) H9.out rfl)
                | (refine Mm.wp_storeF _ rfl 3 _ _ (by rfl) (by kernel_rfl) p 1 90 _ _ H9.out (by rfl) (by rfl) (by simp [Mm.cellsP]) rfl rfl ?_; intro w10 h10 hz10 hg10; have H10 := Pl.hid h10; have HG10 := Pl.hid hg10; clear h10 hz10 hg10; clear d1 d3; have d3 := Mm.cellOf (i := 3) (v := .int .i64 ((k : Int) + 2 - 1)) H10.out rfl))
              go_ret
              have hgg := Mm.gTrans HG7.out (Mm.gTrans HG8.out (Mm.gTrans HG9.out HG10.out))
              refine ⟨rfl, Mm.foot p (.slice a6 (st.words.length + 1) k6) rv rows, ⟨_, rv, ev, rows, HV.out.words HO6.out HG6.out HAT6.out hgg ?_ ?_ rfl rfl, rfl⟩, ?_⟩
              · have e : ((st.left - 1 : Nat) : Int) = (k : Int) + 2 - 1 := by rw [HK.out]; omega
                show w10.heap[p]? = some (Obj.cells #[bv, .int .i64 ((st.used + (n + 2) : Nat) : Int), .slice a6 (st.words.length + 1) k6, .int .i64 ((st.left - 1 : Nat) : Int), .int .i64 (st.size : Int), .int .i64 (-1), rv, ev] 90 (0, 0))
                rw [e]
                exact H10.out
              · rw [Pl.L_B]
              · rw [HF.out]
                exact Mm.chgW HG6.out HAT6.out hgg
      · rw [if_neg (by rintro (⟨_, h⟩ | ⟨h, _⟩); exact h (h13.2 hb); omega), if_pos (by omega)]
        generalize Pl.at_ l n = a0 at b1 hb
        clear h13
        have hb' : (a0 != 13) = false := by simpa [bne] using hb
        clear hb
        go_enter Tryd.func71, Tryd.ntmps71
        go_wp2_with fail
        go_ret
        exact ⟨rfl, F, ⟨wv, rv, ev, rows, HV.out, HF.out⟩, Mm.Chg.refl _ _⟩
  · rw [if_neg (by omega), if_pos (by omega)]
    go_enter Tryd.func71, Tryd.ntmps71
    go_wp2_with fail
    go_ret
    exact ⟨rfl, F, ⟨wv, rv, ev, rows, HV.out, HF.out⟩, Mm.Chg.refl _ _⟩
end Go.Proofs.YtakldjdohgmeiaaDoor
