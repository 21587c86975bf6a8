/- A parser's word: Go's word. Conditions stand in the law. A parser's inline and part: Go's inline, part. Conditions stand in each law. A parser's part: Go's part; what a step does to the state, in plain Lean. Conditions stand in each law. A parser's Feed. Conditions stand in each law. bytes.IndexAny(b, "\r\n") at every row of bytes. Conditions stand in each law. bytes.IndexAny(b, "\r\n") at every row of bytes: the whole. Conditions stand in each law. Conditions stand in each law. -/
import Derived.Test.YtakldjdohgmeiaaDoorBuReplyForm6
import Derived.Laws.AppendOwnNone
import Derived.Test.YtakldjdohgmeiaaDoorBuReplyForm4
import Derived.Lib.IndexEntry
import Derived.Lib.DecodeN
namespace Go.Proofs.YtakldjdohgmeiaaDoor
open Go.RowKit
set_option maxRecDepth 20000

theorem Mm.ownsRow_slice {w : World} {b : Nat} {t : TypeId} {k : Nat} {v : Value} {n : Nat} {cs : List Value} (h : w.ownsRow b t k v n cs) : ∃ a m c, v = .slice a m c := by
  rcases h.2 with ⟨rfl, _⟩ | ⟨g, cap, cur, rfl, _⟩
  · exact ⟨_, _, _, rfl⟩
  · exact ⟨_, _, _, rfl⟩

set_option maxHeartbeats 8000000 in
theorem word_walk (p g o c : Nat) (l : List UInt8) (bv : Value) (st : Pl.Pst) (F : Nat → Prop) (W w : World) (_ : W.heap.size ≤ p) (hR : Mm.RErr W) (hW : Below W.heap.size W w) (_ : l.length ≤ 140737488351232) (hc : l.length ≤ c) (h : Mm.BytesAt w g o l)
    (hp : Mm.PQ w p bv st F) (he : st.err = false) (hn0 : 0 ≤ st.need) (hn1 : st.need ≤ 1048576) (hf0 : 0 < st.left) (hf1 : st.left ≤ 1024) (hu : st.used ≤ 4503599627370496) (hwd : st.words.length ≤ 1099511627776) (hrd : st.ready.length ≤ 1099511627776) :
    Calls Tryd.prog 71 #[.pointer (some ⟨p, 0, none⟩), .slice (some ⟨g, o, none⟩) l.length c] w fun e w' => e = .returned (.int .i64 ((Pl.wordM st l).1 : Int)) ∧ ∃ F', Mm.PQ w' p bv (Pl.wordM st l).2 F' ∧ Mm.Chg w F w' F' := by
  obtain ⟨T3, x3, hx3⟩ := (hR.on hW).here 3 (by simp)
  obtain ⟨wv, rv, ev, rows, hv, hF⟩ := hp
  obtain ⟨n, hn⟩ := Int.eq_ofNat_of_zero_le hn0
  rw [hn] at hn1
  have HM := Pl.hid h
  have HV := Pl.hid hv
  have He := Pl.hid he
  have HN := Pl.hid hn
  have hpl := hv.lt
  have HPL := Pl.hid hpl
  have HF := Pl.hid hF
  have c5 := hv.cell 5 (.int .i64 (n : Int)) (by show some (Value.int .i64 st.need) = _; rw [hn])
  have HRD : Hid (rows.length ≤ 1099511627776) := by show _ ≤ _; rw [hv.2.2.2.1.1]; exact hrd
  clear hR hW h hv he hrd hF
  unfold Pl.wordM
  have htn : st.need.toNat = n := by rw [hn]; rfl
  rw [htn]
  clear htn hn hn0
  rcases Nat.lt_or_ge n l.length with h1 | h1
  · have b1 := HM.out n h1
    have h13 := Pl.at_is (l := l) (n := n) (k := 13) h1 (by decide)
    rw [show UInt8.ofNat 13 = 13 from rfl] at h13
    cases hb : (Pl.at_ l n == ((13 : Nat) : Int)) with
    | false =>
      rw [if_pos (.inl ⟨h1, fun e => by rw [h13.1 e] at hb; cases hb⟩)]
      generalize Pl.at_ l n = a0 at b1 hb
      clear h13
      have hb' : (a0 != 13) = true := by simpa [bne] using hb
      clear hb
      go_enter Tryd.func71, Tryd.ntmps71
      go_wp2_with (first | (refine Mm.wp_storeF _ rfl 53 _ _ (by rfl) (by kernel_rfl) p 7 90 (Mm.cellsP bv wv rv ev st) (.iface T3 x3) HV.out.1 (by rfl) (by rfl) (by simp [Mm.cellsP]) rfl rfl ?_; intro w3 h3 hz3 hg3; clear hz3))
      go_ret
      refine ⟨rfl, F, ⟨wv, rv, .iface T3 x3, rows, HV.out.store hg3 h3 rfl rfl (.inl ⟨rfl, _, _, rfl⟩), HF.out⟩, Mm.Chg.grown hg3 (fun g e => by rw [HF.out]; injection e with e; exact .inl e.symm) (fun _ h => .inl h)⟩
    | true =>
      rcases Nat.lt_or_ge (n + 1) l.length with h2 | h2
      · have b2 := HM.out (n + 1) h2
        have h10 := Pl.at_is (l := l) (n := n + 1) (k := 10) h2 (by decide)
        rw [show UInt8.ofNat 10 = 10 from rfl] at h10
        cases hb2 : (Pl.at_ l (n + 1) == ((10 : Nat) : Int)) with
        | false =>
          rw [if_pos (.inr ⟨h2, fun e => by rw [h10.1 e] at hb2; cases hb2⟩)]
          generalize Pl.at_ l n = a0 at b1 hb
          generalize Pl.at_ l (n + 1) = a1 at b2 hb2
          clear h13 h10
          have hb' : (a0 != 13) = false := by simpa [bne] using hb
          have hb2' : (a1 != 10) = true := by simpa [bne] using hb2
          clear hb hb2
          go_enter Tryd.func71, Tryd.ntmps71
          go_wp2_with (first | (refine Mm.wp_storeF _ rfl 53 _ _ (by rfl) (by kernel_rfl) p 7 90 (Mm.cellsP bv wv rv ev st) (.iface T3 x3) HV.out.1 (by rfl) (by rfl) (by simp [Mm.cellsP]) rfl rfl ?_; intro w3 h3 hz3 hg3; clear hz3))
          go_ret
          refine ⟨rfl, F, ⟨wv, rv, .iface T3 x3, rows, HV.out.store hg3 h3 rfl rfl (.inl ⟨rfl, _, _, rfl⟩), HF.out⟩, Mm.Chg.grown hg3 (fun g e => by rw [HF.out]; injection e with e; exact .inl e.symm) (fun _ h => .inl h)⟩
        | true =>
          rw [if_neg (by rintro (⟨_, h⟩ | ⟨_, h⟩); exact h (h13.2 hb); exact h (h10.2 hb2)), if_neg (by omega)]
          generalize Pl.at_ l n = a0 at b1 hb
          generalize Pl.at_ l (n + 1) = a1 at b2 hb2
          clear h13 h10
          have hb' : (a0 != 13) = false := by simpa [bne] using hb
          have hb2' : (a1 != 10) = false := by simpa [bne] using hb2
          clear hb hb2
          have c2 := HV.out.cell 2 wv rfl
          have hcv0 := Mm.conv_at w.drew g o n n (l.take n) (by rw [List.length_take]; omega) (HM.out.take n)
          have hnc : n ≤ c := by omega
          have hca : (w.drew.alloc (.cells #[.string (Pl.B (l.take n))] 9)).cell? ⟨p, 2, none⟩ = some wv := (World.cell?_alloc_old _ _ _ (Nat.ne_of_lt hpl)).trans c2
          have hwbig : st.words.length < 8796093022207 := by omega
          have HST : Hid (∀ w6, (w.drew.alloc (.cells #[.string (Pl.B (l.take n))] 9)).grownBy w6 wv.ownBlock → w6.heap[p]? = some (.cells (Mm.cellsP bv wv rv ev st) 90 (0, 0)) ∧ w6.cell? ⟨p, 2, none⟩ = some wv ∧ w6.frozen? ⟨p, 2, none⟩ = false) := fun w6 hg => by
            have h6 := (hg.block p (by simp; have := HPL.out; omega) (fun e => by have := (HV.out.2.1.lt p e.symm).1; omega)).trans ((Below.heap_alloc _ _ _ HPL.out).trans HV.out.1)
            exact ⟨h6, Mm.cellOf h6 rfl, Mm.frozenOf h6⟩
          obtain ⟨k, hk⟩ : ∃ k, st.left = k + 1 := ⟨st.left - 1, by omega⟩
          have HK := Pl.hid hk
          cases k with
          | zero =>
            rw [if_pos hk]
            clear hk hf0 hf1
            go_enter Tryd.func71, Tryd.ntmps71
            go_wp2_with fail
            go_region_law (refine Mm.step_appS _ (by rfl) _ _ (by rfl) w.drew (Pl.B (l.take n)) (p + 1) wv st.words (by rfl) HV.out.2.1 (by rfl) (by rfl) hwbig hpl ?_; intro v6 w6 ho6 hg6 hat6; obtain ⟨a6, k6, rfl, _⟩ := ho6.val; obtain ⟨hh6, p6, pf6⟩ := HST.out w6 hg6)
            all_goals
              have elen : (st.words ++ [Pl.L (Pl.B (l.take n))]).length = st.words.length + 1 := by simp
              rw [elen] at ho6 hat6
              have HP7 := Pl.hid (Mm.heapSet hh6 2 (.slice a6 (st.words.length + 1) k6))
              have HG7 := Pl.hid (Mm.grownSet w6 p 2 (.slice a6 (st.words.length + 1) k6))
              generalize World.setCell w6 _ _ = w7 at HP7 HG7 ⊢
              have HO6 := Pl.hid ho6
              have HG6 : Hid ((w.drew.alloc (.cells #[.string (Pl.B (l.take n))] 9)).grownBy w6 wv.ownBlock) := hg6
              have HAT6 : Hid ((Value.slice a6 (st.words.length + 1) k6).ownBlock = wv.ownBlock ∨ (Value.slice a6 (st.words.length + 1) k6).ownBlock = some (w.drew.alloc (.cells #[.string (Pl.B (l.take n))] 9)).heap.size) := hat6
              clear elen ho6 hg6 hat6 hh6 p6 pf6 hca hcv0 c2 b1 b2 c5 hb' hb2' 
            all_goals
              have d3 : w7.cell? ⟨p, 3, none⟩ = some (.int .i64 1) := Mm.cellOf (i := 3) HP7.out (by show some (Value.int .i64 (st.left : Int)) = _; rw [HK.out]; rfl)
              go_wp2_with (first
                | (refine Mm.wp_storeF _ rfl 3 _ _ (by rfl) (by kernel_rfl) p 5 90 _ _ HP7.out (by rfl) (by rfl) (by simp [Mm.cellsP]) rfl rfl ?_; intro w8 h8 hz8 hg8; have H8 := Pl.hid h8; have HG8 := Pl.hid hg8; clear h8 hz8 hg8; have d3 := Mm.cellOf (i := 3) (v := .int .i64 1) H8.out (by show some (Value.int .i64 (st.left : Int)) = _; rw [HK.out]; rfl))
                | (refine Mm.wp_storeF _ rfl 3 _ _ (by rfl) (by kernel_rfl) p 3 90 _ _ H8.out (by rfl) (by rfl) (by simp [Mm.cellsP]) rfl rfl ?_; intro w9 h9 hz9 hg9; have H9 := Pl.hid h9; have HG9 := Pl.hid hg9; clear h9 hz9 hg9; have d1 := Mm.cellOf (i := 1) (v := .int .i64 (st.used : Int)) H9.out rfl; clear d3; have d3 := Mm.cellOf (i := 3) (v := .int .i64 0) H9.out rfl)
                | (refine Mm.wp_storeF _ rfl 3 _ _ (by rfl) (by kernel_rfl) p 1 90 _ _ H9.out (by rfl) (by rfl) (by simp [Mm.cellsP]) rfl rfl ?_; intro w10 h10 hz10 hg10; have H10 := Pl.hid h10; have HG10 := Pl.hid hg10; clear h10 hz10 hg10; clear d1 d3; have d3 := Mm.cellOf (i := 3) (v := .int .i64 0) H10.out rfl))
              have hgg := Mm.gTrans HG7.out (Mm.gTrans HG8.out (Mm.gTrans HG9.out HG10.out))
              have HVX : Hid (Mm.PV w10 p bv { st with words := st.words ++ [Pl.L (Pl.B (l.take n))], need := -1, left := 0, used := st.used + (n + 2) } (.slice a6 (st.words.length + 1) k6) rv ev rows) := HV.out.words HO6.out HG6.out HAT6.out hgg H10.out rfl rfl rfl
              have HCX := Pl.hid (Mm.chgW (rv := rv) (rows := rows) HG6.out HAT6.out hgg)
              have c6 := HVX.out.cell 6 rv rfl
              have c2 := HVX.out.cell 2 (.slice a6 (st.words.length + 1) k6) rfl
              have hpl10 := HVX.out.lt
              have HPL10 := Pl.hid hpl10
              have ca6 : (w10.drew.alloc (.cells #[.slice a6 (st.words.length + 1) k6] 22)).cell? ⟨p, 6, none⟩ = some rv := (World.cell?_alloc_old _ _ _ (Nat.ne_of_lt hpl10)).trans c6
              have ca2 : (w10.drew.alloc (.cells #[.slice a6 (st.words.length + 1) k6] 22)).cell? ⟨p, 2, none⟩ = some (.slice a6 (st.words.length + 1) k6) := (World.cell?_alloc_old _ _ _ (Nat.ne_of_lt hpl10)).trans c2
              have hrb : rows.length < 4398046511103 := by have := HRD.out; omega
              have HSTX : Hid (∀ wy, (w10.drew.alloc (.cells #[.slice a6 (st.words.length + 1) k6] 22)).grownBy wy rv.ownBlock → wy.heap[p]? = some (.cells (Mm.cellsP bv (.slice a6 (st.words.length + 1) k6) rv ev { st with words := st.words ++ [Pl.L (Pl.B (l.take n))], need := -1, left := 0, used := st.used + (n + 2) }) 90 (0, 0)) ∧ wy.cell? ⟨p, 6, none⟩ = some rv ∧ wy.frozen? ⟨p, 6, none⟩ = false) := fun wy hg => by
                have h6 := (hg.block p (by simp; have := HPL10.out; omega) (fun e => by have := (HVX.out.2.2.1.lt p e.symm).1; omega)).trans ((Below.heap_alloc _ _ _ HPL10.out).trans HVX.out.1)
                exact ⟨h6, Mm.cellOf h6 rfl, Mm.frozenOf h6⟩
              clear hgg d3
              go_region_law (refine Mm.step_appC _ (by rfl) _ _ (by rfl) w10.drew (.slice a6 (st.words.length + 1) k6) rfl (p + 1) rv rows (by rfl) HVX.out.2.2.1 (by rfl) (by rfl) hrb hpl10 ?_; intro vy wy hoy hgy haty; obtain ⟨ay, ny, ky, rfl⟩ := Mm.ownsRow_slice hoy; obtain ⟨hhy, py, pfy⟩ := HSTX.out wy hgy)
              all_goals
                have HPY := Pl.hid (Mm.heapSet hhy 6 (.slice ay ny ky))
                have HGY7 := Pl.hid (Mm.grownSet wy p 6 (.slice ay ny ky))
                generalize World.setCell wy _ _ = wz at HPY HGY7 ⊢
                have HOY := Pl.hid hoy
                have HGY : Hid ((w10.drew.alloc (.cells #[.slice a6 (st.words.length + 1) k6] 22)).grownBy wy rv.ownBlock) := hgy
                have HATY : Hid ((Value.slice ay ny ky).ownBlock = rv.ownBlock ∨ (Value.slice ay ny ky).ownBlock = some (w10.drew.alloc (.cells #[.slice a6 (st.words.length + 1) k6] 22)).heap.size) := haty
                clear hoy hgy haty hhy py pfy ca6 ca2 c6 c2
                go_wp2_with (first
                  | (refine Mm.wp_storeF _ rfl 22 _ _ (by rfl) (by kernel_rfl) p 2 90 _ _ HPY.out (by rfl) (by rfl) (by simp [Mm.cellsP]) rfl rfl ?_; intro w11 h11 hz11 hg11; have H11 := Pl.hid h11; have HG11 := Pl.hid hg11; clear h11 hz11 hg11)
                  | (refine Mm.wp_storeF _ rfl 3 _ _ (by rfl) (by kernel_rfl) p 1 90 _ _ H11.out (by rfl) (by rfl) (by simp [Mm.cellsP]) rfl rfl ?_; intro w12 h12 hz12 hg12; have H12 := Pl.hid h12; have HG12 := Pl.hid hg12; clear h12 hz12 hg12))
                go_ret
                have hgz := Mm.gTrans HGY7.out (Mm.gTrans HG11.out HG12.out)
                refine ⟨rfl, Mm.foot p (.slice none 0 0) (.slice ay ny ky) (rows ++ [.slice a6 (st.words.length + 1) k6]), ⟨_, _, ev, _, HVX.out.readied HOY.out HGY.out HATY.out hgz H12.out rfl ?_ rfl, rfl⟩, ?_⟩
                · show st.ready ++ _ = st.ready ++ _
                  rw [Pl.L_B]
                · rw [HF.out]
                  exact HCX.out.trans (Mm.chgR HGY.out HATY.out hgz)
          | succ k =>
            rw [if_neg (by omega)]
            clear hk hf0
            go_enter Tryd.func71, Tryd.ntmps71
            go_wp2_with fail
            go_region_law (refine Mm.step_appS _ (by rfl) _ _ (by rfl) w.drew (Pl.B (l.take n)) (p + 1) wv st.words (by rfl) HV.out.2.1 (by rfl) (by rfl) hwbig hpl ?_; intro v6 w6 ho6 hg6 hat6; obtain ⟨a6, k6, rfl, _⟩ := ho6.val; obtain ⟨hh6, p6, pf6⟩ := HST.out w6 hg6)
            all_goals
              have elen : (st.words ++ [Pl.L (Pl.B (l.take n))]).length = st.words.length + 1 := by simp
              rw [elen] at ho6 hat6
              have HP7 := Pl.hid (Mm.heapSet hh6 2 (.slice a6 (st.words.length + 1) k6))
              have HG7 := Pl.hid (Mm.grownSet w6 p 2 (.slice a6 (st.words.length + 1) k6))
              generalize World.setCell w6 _ _ = w7 at HP7 HG7 ⊢
              have HO6 := Pl.hid ho6
              have HG6 : Hid ((w.drew.alloc (.cells #[.string (Pl.B (l.take n))] 9)).grownBy w6 wv.ownBlock) := hg6
              have HAT6 : Hid ((Value.slice a6 (st.words.length + 1) k6).ownBlock = wv.ownBlock ∨ (Value.slice a6 (st.words.length + 1) k6).ownBlock = some (w.drew.alloc (.cells #[.string (Pl.B (l.take n))] 9)).heap.size) := hat6
              clear elen ho6 hg6 hat6 hh6 p6 pf6 hca hcv0 c2 b1 b2 c5 hb' hb2' 
            all_goals
              have d3 : w7.cell? ⟨p, 3, none⟩ = some (.int .i64 ((k : Int) + 2)) := Mm.cellOf (i := 3) HP7.out (by show some (Value.int .i64 (st.left : Int)) = _; rw [HK.out]; rfl)
              have hkk : (k : Int) ≤ 1024 := by have := HK.out; omega
              have hk1 : ((k : Int) + 2 - 1 == 0) = false := beq_eq_false_iff_ne.2 (by omega)
              go_wp2_with (first
                | (refine Mm.wp_storeF _ rfl 3 _ _ (by rfl) (by kernel_rfl) p 5 90 _ _ HP7.out (by rfl) (by rfl) (by simp [Mm.cellsP]) rfl rfl ?_; intro w8 h8 hz8 hg8; have H8 := Pl.hid h8; have HG8 := Pl.hid hg8; clear h8 hz8 hg8; have d3 := Mm.cellOf (i := 3) (v := .int .i64 ((k : Int) + 2)) H8.out (by show some (Value.int .i64 (st.left : Int)) = _; rw [HK.out]; rfl))
                | (refine Mm.wp_storeF _ rfl 3 _ _ (by rfl) (by kernel_rfl) p 3 90 _ _ H8.out (by rfl) (by rfl) (by simp [Mm.cellsP]) rfl rfl ?_; intro w9 h9 hz9 hg9; have H9 := Pl.hid h9; have HG9 := Pl.hid hg9; clear h9 hz9 hg9; have d1 := Mm.cellOf (i := 1) (v := .int .i64 (st.used : Int)) H9.out rfl; clear d3; have d3 := Mm.cellOf (i := 3) (v := .int .i64 ((k : Int) + 2 - 1)) H9.out rfl)
                | (refine Mm.wp_storeF _ rfl 3 _ _ (by rfl) (by kernel_rfl) p 1 90 _ _ H9.out (by rfl) (by rfl) (by simp [Mm.cellsP]) rfl rfl ?_; intro w10 h10 hz10 hg10; have H10 := Pl.hid h10; have HG10 := Pl.hid hg10; clear h10 hz10 hg10; clear d1 d3; have d3 := Mm.cellOf (i := 3) (v := .int .i64 ((k : Int) + 2 - 1)) H10.out rfl))
              go_ret
              have hgg := Mm.gTrans HG7.out (Mm.gTrans HG8.out (Mm.gTrans HG9.out HG10.out))
              refine ⟨rfl, Mm.foot p (.slice a6 (st.words.length + 1) k6) rv rows, ⟨_, rv, ev, rows, HV.out.words HO6.out HG6.out HAT6.out hgg ?_ ?_ rfl rfl, rfl⟩, ?_⟩
              · have e : ((st.left - 1 : Nat) : Int) = (k : Int) + 2 - 1 := by rw [HK.out]; omega
                show w10.heap[p]? = some (Obj.cells #[bv, .int .i64 ((st.used + (n + 2) : Nat) : Int), .slice a6 (st.words.length + 1) k6, .int .i64 ((st.left - 1 : Nat) : Int), .int .i64 (st.size : Int), .int .i64 (-1), rv, ev] 90 (0, 0))
                rw [e]
                exact H10.out
              · rw [Pl.L_B]
              · rw [HF.out]
                exact Mm.chgW HG6.out HAT6.out hgg
      · rw [if_neg (by rintro (⟨_, h⟩ | ⟨h, _⟩); exact h (h13.2 hb); omega), if_pos (by omega)]
        generalize Pl.at_ l n = a0 at b1 hb
        clear h13
        have hb' : (a0 != 13) = false := by simpa [bne] using hb
        clear hb
        go_enter Tryd.func71, Tryd.ntmps71
        go_wp2_with fail
        go_ret
        exact ⟨rfl, F, ⟨wv, rv, ev, rows, HV.out, HF.out⟩, Mm.Chg.refl _ _⟩
  · rw [if_neg (by omega), if_pos (by omega)]
    go_enter Tryd.func71, Tryd.ntmps71
    go_wp2_with fail
    go_ret
    exact ⟨rfl, F, ⟨wv, rv, ev, rows, HV.out, HF.out⟩, Mm.Chg.refl _ _⟩
end Go.Proofs.YtakldjdohgmeiaaDoor

namespace Go.Proofs.YtakldjdohgmeiaaDoor
open Go.RowKit
set_option maxRecDepth 20000

namespace Pl
theorem trim_cut (t : List UInt8) (g o : Nat) : Lib.trimSuffixV (some ⟨g, o, none⟩) t.length t.length (natL t) [13] = .slice (some ⟨g, o, none⟩) (cutM t).length t.length := by
  cases h : crB t with
  | false => rw [trim_no h]; unfold cutM; rw [h]; rfl
  | true =>
    obtain ⟨k, hk⟩ : ∃ k, t.length = k + 1 := ⟨t.length - 1, by have := crB_pos h; omega⟩
    rw [hk, trim_yes h]
    unfold cutM
    rw [h, if_pos rfl, List.length_dropLast, hk]
    rfl
theorem cutM_len (t : List UInt8) : (cutM t).length ≤ t.length := by unfold cutM; split <;> simp
theorem cutM_take (t : List UInt8) : cutM t = t.take (cutM t).length := by
  unfold cutM
  split
  · rw [List.length_dropLast, ← List.dropLast_eq_take]
  · simp
theorem inlineM_none {st : Pst} {l : List UInt8} (h : lineM l 4096 = none) : inlineM st l = (0, { st with err := decide (4096 < l.length) }) := by unfold inlineM; rw [h]
theorem inlineM_ok {st : Pst} {l t : List UInt8} {ws : List (List UInt8)} (h : lineM l 4096 = some t) (hq : inl 4098 (cutM t) [] = (0, ws)) : inlineM st l = (t.length + 1, if ws = [] then st else { st with ready := st.ready ++ [ws] }) := by
  unfold inlineM
  rw [h]
  simp only
  rw [hq]
  rfl
theorem inlineM_bad {st : Pst} {l t : List UInt8} (h : lineM l 4096 = some t) (hq : (inl 4098 (cutM t) []).1 ≠ 0) : inlineM st l = (0, { st with err := true }) := by
  unfold inlineM
  rw [h]
  simp only
  split
  · rename_i e
    rw [e] at hq
    exact absurd rfl hq
  · rfl
end Pl
namespace Mm
open Pl
theorem gDrew {a b : World} {o : Obj} {r : Option Nat} (h : (a.alloc o).grownBy b r) : (a.drew.alloc o).grownBy b r := ⟨h.os, h.tape, h.output, h.size, h.block⟩
theorem OwnS.base {w : World} {b b' : Nat} {v : Value} {l : List (List UInt8)} (h : OwnS w b v l) (hb : b' ≤ b) : OwnS w b' v l := by
  obtain ⟨hl, h0 | ⟨g, cap, cur, hv, hg, r⟩⟩ := h
  · exact ⟨hl, .inl h0⟩
  · exact ⟨hl, .inr ⟨g, cap, cur, hv, Nat.le_trans hb hg, r⟩⟩
/-- 'append(ready, words)' -/
theorem wp_appC {ops : Array Oper} {rest : List Oper} {o : Oper} {a : Act} {Q : Exit → Act → World → Prop} (w : World) (hgd : o.guard = none) (x y : Operand)
    (ho : o.op = .call { callee := .builtin .append, args := #[x, y], argTypes := #[65, 65] })
    (w1 : World) (u : Value) (hu : u.oneCell' = true) (base : Nat) (v : Value) (xs : List Value) (hx : a.eval x = v) (h : w1.ownsRow base 22 1 v xs.length xs) (hy : a.eval y = .slice (some ⟨w1.heap.size, 0, none⟩) 1 1) (hw : w = w1.alloc (.cells #[u] 22))
    (hl : xs.length < 4398046511103) (hbase : base ≤ w1.heap.size)
    (hK : ∀ v' w', w'.ownsRow base 22 1 v' (xs ++ [u]).length (xs ++ [u]) → w.grownBy w' v.ownBlock → (v'.ownBlock = v.ownBlock ∨ v'.ownBlock = some w.heap.size) → wpList Tryd.prog ops Q rest (a.put o.dst v') w') : wpList Tryd.prog ops Q (o :: rest) a w :=
  wpList_plain hgd fun _ hK' => wp0_app1 w x y 65 22 24 (.slice none 0 0) rfl Tryd.info_strs Tryd.underlying65 ho w1 u base v xs hx h hu hy hw (by unfold maxLen; omega) (by omega) hbase fun v' w' h1 h2 h3 => hK' _ _ (hK v' w' h1 h2 h3)
theorem PV.pushed {w0 w w6 w8 : World} {o : Obj} {p : Nat} {bv wv rv ev v6 nv : Value} {st st' : Pst} {rows : List Value} {ws : List (List UInt8)} (h0 : PV w0 p bv st wv rv ev rows) (h : PV w p bv st wv rv ev rows) (hn : OwnS w w0.heap.size nv ws)
    (ho : w6.ownsRow (p + 1) 22 1 v6 (rows ++ [nv]).length (rows ++ [nv])) (hg : (w.drew.alloc o).grownBy w6 rv.ownBlock)
    (hat : v6.ownBlock = rv.ownBlock ∨ v6.ownBlock = some (w.drew.alloc o).heap.size) (h8 : w6.grownBy w8 (some p)) (hp : w8.heap[p]? = some (.cells (cellsP bv wv v6 ev st') 90 (0, 0)))
    (h1 : st'.words = st.words) (h2 : st'.ready = st.ready ++ [ws]) (h3 : st'.err = st.err) : PV w8 p bv st' wv v6 ev (rows ++ [nv]) := by
  have hs : (w.drew.alloc o).heap.size = w.heap.size + 1 := by simp
  have hp0 := h0.lt
  have hnew : ∀ g, nv.ownBlock = some g → w0.heap.size ≤ g ∧ g < w.heap.size := fun g hg => hn.lt g hg
  have hrow : ∀ v ∈ rows ++ [nv], (∃ l, OwnS w (p + 1) v l) ∧ noA v rv ∧ noA v wv := by
    intro v hv
    rcases List.mem_append.1 hv with hv | hv
    · exact ⟨h.2.2.2.1.row hv, (h.2.2.2.2.2.1 v hv).2, (h.2.2.2.2.2.1 v hv).1⟩
    · obtain rfl : v = nv := by simpa using hv
      refine ⟨⟨_, hn.base (by omega)⟩, fun g e1 e2 => ?_, fun g e1 e2 => ?_⟩
      · have := (h0.2.2.1.lt g e2).2
        have := (hnew g e1).1
        omega
      · have := (h0.2.1.lt g e2).2
        have := (hnew g e1).1
        omega
  refine ⟨hp, ?_, ?_, ?_, ?_, ?_, by rw [h3]; exact h.2.2.2.2.2.2⟩
  · rw [h1]
    exact h.2.1.keep fun g hg' => far w o hg h8 (h.2.1.lt g hg').2 (h.2.1.lt g hg').1 (fun e => h.2.2.2.2.1 g hg' e)
  · exact ownsRow_keep ho fun g hg' => h8.block g (ho.lt g hg').2 (fun e => by injection e with e; have := (ho.lt g hg').1; omega)
  · have k : Rdy w (p + 1) (rows ++ [nv]) (st.ready ++ [ws]) := by
      refine ⟨by simp [h.2.2.2.1.1], fun i l hl => ?_⟩
      rcases Nat.lt_or_ge i st.ready.length with hi | hi
      · rw [List.getElem?_append_left hi] at hl
        obtain ⟨v, e1, e2⟩ := h.2.2.2.1.2 i l hl
        exact ⟨v, by rw [List.getElem?_append_left (by rw [h.2.2.2.1.1]; exact hi)]; exact e1, e2⟩
      · rw [List.getElem?_append_right hi] at hl
        have h0' : i - st.ready.length = 0 := by
          have := (List.getElem?_eq_some_iff.1 hl).1
          simp at this
          omega
        rw [h0'] at hl
        obtain rfl : ws = l := by simpa using hl
        refine ⟨nv, ?_, hn.base (by omega)⟩
        rw [List.getElem?_append_right (by rw [h.2.2.2.1.1]; exact hi), h.2.2.2.1.1, h0']
        rfl
    rw [h2]
    exact k.keep fun v hv g hg' => by
      obtain ⟨⟨l, hl⟩, hn', _⟩ := hrow v hv
      exact far w o hg h8 (hl.lt g hg').2 (hl.lt g hg').1 (fun e => hn' g hg' e)
  · intro g hg1 hg2
    rcases hat with e | e
    · rw [e] at hg2
      exact h.2.2.2.2.1 g hg1 hg2
    · rw [e] at hg2
      injection hg2 with hg2
      have := (h.2.1.lt g hg1).2
      omega
  · intro v hv
    obtain ⟨⟨l, hl⟩, hn', hn''⟩ := hrow v hv
    refine ⟨hn'', fun g hg1 hg2 => ?_⟩
    rcases hat with e | e
    · rw [e] at hg2
      exact hn' g hg1 hg2
    · rw [e] at hg2
      injection hg2 with hg2
      have := (hl.lt g hg1).2
      omega
theorem chgP {w0 w w6 w8 : World} {o : Obj} {p : Nat} {wv rv v6 nv : Value} {rows : List Value} (hb : Below w0.heap.size w0 w) (hn : ∀ g, nv.ownBlock = some g → w0.heap.size ≤ g) (hg : (w.drew.alloc o).grownBy w6 rv.ownBlock) (hat : v6.ownBlock = rv.ownBlock ∨ v6.ownBlock = some (w.drew.alloc o).heap.size) (h8 : w6.grownBy w8 (some p)) : Chg w0 (foot p wv rv rows) w8 (foot p wv v6 (rows ++ [nv])) := by
  have hs : (w.drew.alloc o).heap.size = w.heap.size + 1 := by simp
  have h6 := hg.size
  have h7 := h8.size
  have h5 := hb.size
  refine ⟨h8.os.trans (hg.os.trans hb.os), h8.tape.trans (hg.tape.trans hb.tape), h8.output.trans (hg.output.trans hb.output), by omega, fun g hg0 hf => ?_, fun g hg' => ?_⟩
  · rw [h8.block g (by omega) (fun e => by injection e with e; exact hf (.inl e)), hg.block g (by omega) (fun e => hf (.inr (.inr (.inl e.symm))))]
    exact (Below.heap_alloc w.drew o g (by show g < w.heap.size; omega)).trans (hb.block g hg0)
  · rcases hg' with e | e | e | ⟨v, hv, e⟩
    · exact .inl (.inl e)
    · exact .inl (.inr (.inl e))
    · rcases hat with h | h
      · exact .inl (.inr (.inr (.inl (by rw [← h]; exact e))))
      · rw [h] at e
        injection e with e
        exact .inr (by omega)
    · rcases List.mem_append.1 hv with hv | hv
      · exact .inl (.inr (.inr (.inr ⟨v, hv, e⟩)))
      · obtain rfl : v = nv := by simpa using hv
        exact .inr (hn g e)
/-- a line that is no row of words: some error is told -/
def InlE (W : World) : Prop := ∀ (s : ByteArray) (w : World), s.size ≤ 4096 → Below W.heap.size W w → (inl 4098 (L s) []).1 ≠ 0 →
  Calls Tryd.prog 38 #[.string s] w fun e w' => (∃ T x, e = .returned (.tuple #[.slice none 0 0, .iface T x])) ∧ Below w.heap.size w w'
end Mm

set_option maxHeartbeats 8000000 in
theorem pinline_walk (p g o c : Nat) (l : List UInt8) (bv : Value) (st : Pl.Pst) (F : Nat → Prop) (W w : World) (hpW : W.heap.size ≤ p) (hR : Mm.RErr W) (hI : Mm.InlE W) (hW : Below W.heap.size W w) (hl : l.length ≤ 140737488351232) (hc : l.length ≤ c) (h0 : 0 < l.length) (h : Mm.BytesAt w g o l)
    (hp : Mm.PQ w p bv st F) (he : st.err = false) (hrd : st.ready.length ≤ 1099511627776) :
    Calls Tryd.prog 74 #[.pointer (some ⟨p, 0, none⟩), .slice (some ⟨g, o, none⟩) l.length c] w fun e w' => e = .returned (.int .i64 ((Pl.inlineM st l).1 : Int)) ∧ ∃ F', Mm.PQ w' p bv (Pl.inlineM st l).2 F' ∧ Mm.Chg w F w' F' := by
  have HP := Pl.hid hp
  have HM := Pl.hid h
  have HR := Pl.hid hR
  have HI := Pl.hid hI
  have HW := Pl.hid hW
  have He := Pl.hid he
  have HPW := Pl.hid hpW
  clear hp h hR hI hW he hpW
  cases hline : Pl.lineM l 4096 with
  | none =>
    rw [Pl.inlineM_none hline]
    have HL := Pl.hid hline
    obtain ⟨wv0, rv0, ev0, rows0, hv0, hF⟩ := HP.out
    have HF := Pl.hid hF
    clear hline hv0 hF
    simp only
    go_enter Tryd.func74, Tryd.ntmps74
    go_wp2_with fail
    refine (line_none p g o c 4096 4096 rfl l bv st F W w HR.out HW.out hl hc (by decide) HM.out HL.out HP.out He.out).mono ?_
    rintro e w1 ⟨rfl, hp1, hg1⟩
    have HP1 := Pl.hid hp1
    have HG1 := Pl.hid hg1
    clear hp1 hg1
    go_wp2_with fail
    go_ret
    exact ⟨rfl, F, HP1.out, Mm.Chg.grown HG1.out (fun g e => by rw [HF.out]; injection e with e; exact .inl e.symm) (fun _ h => .inl h)⟩
  | some t =>
    have HL := Pl.hid hline
    obtain ⟨_, _, ht, htl, ht46⟩ := Pl.lineM_some hline
    have HMt : Hid (Mm.BytesAt w g o t) := by
      have := HM.out.take t.length
      rwa [← ht] at this
    have htc : t.length ≤ c := by omega
    have HLN := Pl.hid hline
    clear hline ht
    obtain ⟨wv, rv, ev, rows, hv, hF⟩ := HP.out
    have HV := Pl.hid hv
    have HF := Pl.hid hF
    have HRD : Hid (rows.length ≤ 1099511627776) := by show _ ≤ _; rw [hv.2.2.2.1.1]; exact hrd
    clear hv hF hrd HP
    have HB1 := Pl.hid ((Below.refl w.heap.size w).alloc (Nat.le_refl _) (.cells #[.int .u8 13] 5))
    have HX1 : Hid (Lib.BytesIn (w.alloc (.cells #[.int .u8 13] 5)) (some ⟨g, o, none⟩) t.length (Pl.natL t)) := Mm.BytesAt.byteIn (g := g) (o := o) fun hpos => ⟨rfl, HMt.out.keep (HB1.out.block g (HMt.out.lt hpos))⟩
    have HX2 : Hid (Lib.BytesIn (w.alloc (.cells #[.int .u8 13] 5)) (some ⟨w.heap.size, 0, none⟩) 1 [13]) := fun _ => ⟨w.heap.size, 0, rfl, fun i hi => by
      rw [World.cell?_alloc_mark]
      match i, hi with
      | 0, _ => rfl⟩
    have HT := Pl.hid (Pl.trim_cut t g o)
    have hcl := Pl.cutM_len t
    have HCV : Hid ((convert 24 9 (.slice (some ⟨g, o, none⟩) (Pl.cutM t).length t.length)).run Tryd.prog (w.alloc (.cells #[.int .u8 13] 5)) = .ok (.string (Pl.B (Pl.cutM t))) (w.alloc (.cells #[.int .u8 13] 5))) := by
      refine Mm.conv_at _ g o _ _ (Pl.cutM t) rfl ?_
      have := HMt.out.take (Pl.cutM t).length
      rw [← Pl.cutM_take] at this
      rcases Nat.eq_zero_or_pos (Pl.cutM t).length with hz | hz
      · intro j hj
        omega
      · exact this.keep (HB1.out.block g (this.lt hz))
    have hsz : (Pl.B (Pl.cutM t)).size ≤ 4096 := by rw [Pl.B_size]; omega
    have HWB : Hid (Below W.heap.size W (w.alloc (.cells #[.int .u8 13] 5))) := HW.out.trans (HB1.out.mono HW.out.size)
    cases hq : Pl.inl 4098 (Pl.cutM t) [] with
    | mk k ws =>
    cases k with
    | zero =>
      rw [Pl.inlineM_ok HLN.out hq]
      have HQ : Hid (Pl.inl 4098 (Pl.L (Pl.B (Pl.cutM t))) [] = (0, ws)) := by show _ = _; rw [Pl.L_B]; exact hq
      clear hq
      cases ws with
      | nil =>
        rw [if_pos rfl]
        go_enter Tryd.func74, Tryd.ntmps74
        go_wp2_with fail
        refine (line_some _ g o c 4096 4096 rfl l t w hl hc h0 (by decide) HM.out HL.out).mono ?_
        rintro e w1 ⟨rfl, rfl⟩
        go_wp2_with fail
        refine (Tryd.bytes_TrimSuffix_all _ _ t.length t.length 1 1 (Pl.natL t) [13] _ (Pl.natL_length t) rfl (Nat.le_refl _) (by omega) HX1.out HX2.out).mono ?_
        rw [HT.out]
        rintro e w1 ⟨rfl, rfl⟩
        have hcv := HCV.out
        go_wp2_with fail
        clear hcv
        refine (inline_ok _ 4098 [] _ hsz HQ.out).mono ?_
        rintro e w2 ⟨nv, rfl, hown, hb2⟩
        obtain ⟨na, nc, rfl, _⟩ := hown.val
        have HB2 := Pl.hid (HB1.out.trans (hb2.mono HB1.out.size))
        have HV2 := Pl.hid (HV.out.below HB2.out)
        clear hown hb2
        go_wp2_with fail
        go_ret
        exact ⟨rfl, F, ⟨wv, rv, ev, rows, HV2.out, HF.out⟩, Mm.Chg.below HB2.out⟩
      | cons w0 ws =>
        rw [if_neg (by simp)]
        go_enter Tryd.func74, Tryd.ntmps74
        go_wp2_with fail
        refine (line_some _ g o c 4096 4096 rfl l t w hl hc h0 (by decide) HM.out HL.out).mono ?_
        rintro e w1 ⟨rfl, rfl⟩
        go_wp2_with fail
        refine (Tryd.bytes_TrimSuffix_all _ _ t.length t.length 1 1 (Pl.natL t) [13] _ (Pl.natL_length t) rfl (Nat.le_refl _) (by omega) HX1.out HX2.out).mono ?_
        rw [HT.out]
        rintro e w1 ⟨rfl, rfl⟩
        have hcv := HCV.out
        go_wp2_with fail
        clear hcv
        refine (inline_ok _ 4098 (w0 :: ws) _ hsz HQ.out).mono ?_
        rintro e w2 ⟨nv, rfl, hown, hb2⟩
        obtain ⟨na, nc, rfl, _⟩ := hown.val
        have HB2 := Pl.hid (HB1.out.trans (hb2.mono HB1.out.size))
        have HV2 := Pl.hid (HV.out.below HB2.out)
        have HO2 : Hid (Mm.OwnS w2 w.heap.size (.slice na (w0 :: ws).length nc) (w0 :: ws)) := hown.base (by simp)
        have c6 := HV2.out.cell 6 rv rfl
        have hpl2 := HV2.out.lt
        have hrb : rows.length < 4398046511103 := by have := HRD.out; omega
        have hnz : (w0 :: ws).length = ws.length + 1 := rfl
        rw [hnz] at HO2 ⊢
        have HPL2 := Pl.hid hpl2
        clear hown hb2 hnz
        go_wp2_with (first
          | (at_builtin; refine Mm.wp_appC _ rfl _ _ (by rfl) w2 (.slice na (ws.length + 1) nc) rfl (p + 1) rv rows (by rfl) HV2.out.2.2.1 (by rfl) (by rfl) hrb hpl2 ?_; intro vy wy hoy hgy haty; obtain ⟨ay, ny, ky, rfl⟩ := Mm.ownsRow_slice hoy; have HOY := Pl.hid hoy; have HGY := Pl.hid (Mm.gDrew hgy); have HATY := Pl.hid haty; clear hoy hgy haty; have HPY := Pl.hid (((HGY.out.block p (by have := HPL2.out; simp; omega) (fun e => by have := (HV2.out.2.2.1.lt p e.symm).1; omega)).trans (Below.heap_alloc _ _ _ HPL2.out)).trans HV2.out.1))
          | (refine Mm.wp_storeF _ rfl 65 _ _ (by rfl) (by kernel_rfl) p 6 90 (Mm.cellsP bv wv rv ev st) _ HPY.out (by rfl) (by rfl) (by simp [Mm.cellsP]) rfl rfl ?_; intro w8 h8 hz8 hg8; have H8 := Pl.hid h8; have HG8 := Pl.hid hg8; clear h8 hz8 hg8))
        go_ret
        refine ⟨rfl, Mm.foot p wv (.slice ay ny ky) (rows ++ [.slice na (ws.length + 1) nc]), ⟨wv, _, ev, _, HV.out.pushed HV2.out HO2.out HOY.out HGY.out HATY.out HG8.out H8.out rfl rfl rfl, rfl⟩, ?_⟩
        rw [HF.out]
        exact Mm.chgP HB2.out (fun g hg => (HO2.out.lt g hg).1) HGY.out HATY.out HG8.out
    | succ k =>
      have hne : (Pl.inl 4098 (Pl.L (Pl.B (Pl.cutM t))) []).1 ≠ 0 := by rw [Pl.L_B, hq]; simp
      have HQ := Pl.hid hne
      rw [Pl.inlineM_bad HLN.out (by rw [hq]; simp)]
      clear hq hne
      go_enter Tryd.func74, Tryd.ntmps74
      go_wp2_with fail
      refine (line_some _ g o c 4096 4096 rfl l t w hl hc h0 (by decide) HM.out HL.out).mono ?_
      rintro e w1 ⟨rfl, rfl⟩
      go_wp2_with fail
      refine (Tryd.bytes_TrimSuffix_all _ _ t.length t.length 1 1 (Pl.natL t) [13] _ (Pl.natL_length t) rfl (Nat.le_refl _) (by omega) HX1.out HX2.out).mono ?_
      rw [HT.out]
      rintro e w1 ⟨rfl, rfl⟩
      have hcv := HCV.out
      go_wp2_with fail
      clear hcv
      refine (HI.out _ _ hsz HWB.out HQ.out).mono ?_
      rintro e w2 ⟨⟨T, xv, rfl⟩, hb2⟩
      have HB2 := Pl.hid (HB1.out.trans (hb2.mono HB1.out.size))
      have HV2 := Pl.hid (HV.out.below HB2.out)
      have hpl2 := HV2.out.lt
      clear hb2
      go_wp2_with (first
        | (refine Mm.wp_storeF _ rfl 53 _ _ (by rfl) (by kernel_rfl) p 7 90 (Mm.cellsP bv wv rv ev st) _ HV2.out.1 (by rfl) (by rfl) (by simp [Mm.cellsP]) rfl rfl ?_; intro w8 h8 hz8 hg8; have H8 := Pl.hid h8; have HG8 := Pl.hid hg8; clear h8 hz8 hg8))
      go_ret
      exact ⟨rfl, F, ⟨wv, rv, .iface T xv, rows, HV2.out.store HG8.out H8.out rfl rfl (.inl ⟨rfl, _, _, rfl⟩), HF.out⟩, (Mm.Chg.below HB2.out).trans (Mm.Chg.grown HG8.out (fun g e => by rw [HF.out]; injection e with e; exact .inl e.symm) (fun _ h => .inl h))⟩
end Go.Proofs.YtakldjdohgmeiaaDoor

namespace Go.Proofs.YtakldjdohgmeiaaDoor
open Go.RowKit
set_option maxRecDepth 20000

namespace Pl
/-- a state that a parser may be in -/
def okP (st : Pst) : Prop := -1 ≤ st.need ∧ st.need ≤ 1048576 ∧ st.left ≤ 1024 ∧ (0 ≤ st.need → 0 < st.left) ∧ (st.err = false → st.size ≤ 4194304)
def bnd (st : Pst) (U : Nat) : Prop := st.used ≤ U ∧ st.words.length ≤ U ∧ st.ready.length ≤ U
theorem okP_fresh : okP fresh := by unfold okP fresh; simp
theorem count_ok {st : Pst} {l : List UInt8} (h : okP st) (_ : st.need < 0) (he : st.err = false) : okP (countM st l).2 ∧ (countM st l).1 ≤ l.length ∧ ∀ U, bnd st U → bnd (countM st l).2 (U + (countM st l).1) := by
  obtain ⟨h1, h2, h3, h4, h5⟩ := h
  unfold countM
  cases hq : numM l (-1) 1024 with
  | mk q e =>
  cases q with
  | none => exact ⟨⟨h1, h2, h3, h4, fun _ => h5 he⟩, Nat.zero_le _, fun U hU => hU⟩
  | some nk =>
    obtain ⟨n, k⟩ := nk
    obtain ⟨g1, g2, g3, g4, g5⟩ := numM_in hq
    simp only
    split
    · refine ⟨⟨h1, h2, ?_, fun _ => ?_, fun _ => ?_⟩, g5, fun U hU => ⟨?_, ?_, ?_⟩⟩
      · show n.toNat ≤ 1024; omega
      · show 0 < n.toNat; omega
      · show 0 ≤ 4194304; omega
      · show k ≤ U + k; omega
      · exact Nat.zero_le _
      · have := hU.2.2; show st.ready.length ≤ U + k; omega
    · exact ⟨⟨h1, h2, h3, h4, h5⟩, g5, fun U hU => ⟨by have := hU.1; omega, by have := hU.2.1; omega, by have := hU.2.2; omega⟩⟩
theorem length_ok {st : Pst} {l : List UInt8} (h : okP st) (hl : 0 < st.left) (he : st.err = false) : okP (lengthM st l).2 ∧ (lengthM st l).1 ≤ l.length ∧ ∀ U, bnd st U → bnd (lengthM st l).2 (U + (lengthM st l).1) := by
  obtain ⟨h1, h2, h3, h4, h5⟩ := h
  unfold lengthM
  split
  · exact ⟨⟨h1, h2, h3, h4, fun e => by cases e⟩, Nat.zero_le _, fun U hU => hU⟩
  · cases hq : numM l 0 1048576 with
    | mk q e =>
    cases q with
    | none => exact ⟨⟨h1, h2, h3, h4, fun _ => h5 he⟩, Nat.zero_le _, fun U hU => hU⟩
    | some nk =>
      obtain ⟨n, k⟩ := nk
      obtain ⟨g1, g2, g3, g4, g5⟩ := numM_in hq
      simp only
      split
      · exact ⟨⟨h1, h2, h3, h4, fun e => by cases e⟩, Nat.zero_le _, fun U hU => hU⟩
      · refine ⟨⟨?_, g2, h3, fun _ => hl, fun _ => ?_⟩, g5, fun U hU => ⟨?_, ?_, ?_⟩⟩
        · show -1 ≤ n; omega
        · show st.size + n.toNat ≤ 4194304; omega
        · have := hU.1; show st.used + k ≤ U + k; omega
        · have := hU.2.1; show st.words.length ≤ U + k; omega
        · have := hU.2.2; show st.ready.length ≤ U + k; omega
theorem word_ok {st : Pst} {l : List UInt8} (h : okP st) (_ : st.err = false) : okP (wordM st l).2 ∧ (wordM st l).1 ≤ l.length ∧ ∀ U, bnd st U → bnd (wordM st l).2 (U + (wordM st l).1) := by
  obtain ⟨h1, h2, h3, h4, h5⟩ := h
  unfold wordM
  split
  · exact ⟨⟨h1, h2, h3, h4, fun e => by cases e⟩, Nat.zero_le _, fun U hU => hU⟩
  · split
    · exact ⟨⟨h1, h2, h3, h4, h5⟩, Nat.zero_le _, fun U hU => hU⟩
    · rename_i hlen
      simp only
      split
      · refine ⟨⟨by show (-1 : Int) ≤ -1; omega, by show (-1 : Int) ≤ 1048576; omega, Nat.zero_le _, fun e => absurd e (by show ¬ (0 : Int) ≤ -1; omega), h5⟩, by omega, fun U hU => ⟨Nat.zero_le _, Nat.zero_le _, ?_⟩⟩
        have := hU.2.2
        simp
        omega
      · refine ⟨⟨by show (-1 : Int) ≤ -1; omega, by show (-1 : Int) ≤ 1048576; omega, by show st.left - 1 ≤ 1024; omega, fun e => absurd e (by show ¬ (0 : Int) ≤ -1; omega), h5⟩, by omega, fun U hU => ⟨?_, ?_, ?_⟩⟩
        · have := hU.1; show st.used + (st.need.toNat + 2) ≤ U + (st.need.toNat + 2); omega
        · have := hU.2.1; simp; omega
        · have := hU.2.2; show st.ready.length ≤ U + (st.need.toNat + 2); omega
theorem inline_okP {st : Pst} {l : List UInt8} (h : okP st) (he : st.err = false) : okP (inlineM st l).2 ∧ (inlineM st l).1 ≤ l.length ∧ ∀ U, bnd st U → bnd (inlineM st l).2 (U + (inlineM st l).1) := by
  obtain ⟨h1, h2, h3, h4, h5⟩ := h
  cases hq : lineM l 4096 with
  | none => rw [inlineM_none hq]; exact ⟨⟨h1, h2, h3, h4, fun _ => h5 he⟩, Nat.zero_le _, fun U hU => hU⟩
  | some t =>
    obtain ⟨_, _, _, ht, _⟩ := lineM_some hq
    cases hi : inl 4098 (cutM t) [] with
    | mk k ws =>
    cases k with
    | zero =>
      rw [inlineM_ok hq hi]
      simp only
      split
      · exact ⟨⟨h1, h2, h3, h4, h5⟩, ht, fun U hU => ⟨by have := hU.1; omega, by have := hU.2.1; omega, by have := hU.2.2; omega⟩⟩
      · refine ⟨⟨h1, h2, h3, h4, h5⟩, ht, fun U hU => ⟨?_, ?_, ?_⟩⟩
        · have := hU.1; show st.used ≤ U + (t.length + 1); omega
        · have := hU.2.1; show st.words.length ≤ U + (t.length + 1); omega
        · have := hU.2.2; simp; omega
    | succ k =>
      rw [inlineM_bad hq (by rw [hi]; simp)]
      exact ⟨⟨h1, h2, h3, h4, fun e => by cases e⟩, Nat.zero_le _, fun U hU => hU⟩
theorem part_ok {st : Pst} {l : List UInt8} (h : okP st) (he : st.err = false) : okP (partM st l).2 ∧ (partM st l).1 ≤ l.length ∧ ∀ U, bnd st U → bnd (partM st l).2 (U + (partM st l).1) := by
  unfold partM
  split
  · exact ⟨h, Nat.zero_le _, fun U hU => hU⟩
  · split
    · exact word_ok h he
    · split
      · rename_i hl; exact length_ok h hl he
      · split
        · exact count_ok h (by omega) he
        · exact inline_okP h he
end Pl

set_option maxHeartbeats 4000000 in
theorem part_walk (p : Nat) (v : Value) (l : List UInt8) (bv : Value) (st : Pl.Pst) (F : Nat → Prop) (W w : World) (hpW : W.heap.size ≤ p) (hR : Mm.RErr W) (hE : Mm.Errs W) (hI : Mm.InlE W) (hW : Below W.heap.size W w) (hl : l.length ≤ 140737488351232) (hv : Mm.Rest w v l)
    (hp : Mm.PQ w p bv st F) (he : st.err = false) (hok : Pl.okP st) (U : Nat) (hb : Pl.bnd st U) (hU : U ≤ 1099511627776) :
    Calls Tryd.prog 59 #[.pointer (some ⟨p, 0, none⟩), v] w fun e w' => e = .returned (.int .i64 ((Pl.partM st l).1 : Int)) ∧ ∃ F', Mm.PQ w' p bv (Pl.partM st l).2 F' ∧ Mm.Chg w F w' F' := by
  obtain ⟨a, c, rfl, hc, hbytes⟩ := hv
  obtain ⟨h1, h2, h3, h4, h5⟩ := hok
  obtain ⟨b1, b2, b3⟩ := hb
  unfold Pl.partM
  rcases Nat.eq_zero_or_pos l.length with h0 | h0
  · obtain rfl : l = [] := List.eq_nil_of_length_eq_zero h0
    rw [if_pos rfl]
    have HP := Pl.hid hp
    clear hR hE hI hW hp h4 h5 hbytes hpW
    go_enter Tryd.func59, Tryd.ntmps59
    go_wp2_with fail
    go_ret
    exact ⟨rfl, F, HP.out, Mm.Chg.refl _ _⟩
  · rw [if_neg (fun e => by rw [e] at h0; exact absurd h0 (by simp))]
    obtain ⟨g, o, rfl, hm⟩ := hbytes h0
    have hpv := hp
    obtain ⟨wv, rv, ev, rows, hv, hF⟩ := hpv
    have c5 := hv.cell 5 (.int .i64 st.need) rfl
    have c3 := hv.cell 3 (.int .i64 (st.left : Int)) rfl
    have c0 := hm 0 h0
    rw [Nat.add_zero] at c0
    have hlz : ¬ ((l.length : Int) = 0) := by omega
    clear hv hF
    rcases Int.lt_or_le st.need 0 with hn | hn
    · rw [if_neg (by omega)]
      rcases Nat.eq_zero_or_pos st.left with hf | hf
      · rw [if_neg (by omega)]
        have hl0 : (st.left : Int) = 0 := by omega
        rw [hl0] at c3
        rcases Decidable.em (l.head? = some 42) with h42 | h42
        · rw [if_pos h42]
          have HC := Pl.hid (count_walk p g o c l bv st F W w hR hE hW hl hc h0 hm hp he)
          have hq : (Pl.at_ l 0 == 42) = true := by
            cases l with
            | nil => exact absurd h0 (by simp)
            | cons d l =>
              injection h42 with h42
              subst h42
              rfl
          generalize Pl.at_ l 0 = a0 at c0 hq
          clear hR hE hI hW hp hm h42 h4 h5 he hl0 hf hpW
          go_enter Tryd.func59, Tryd.ntmps59
          go_wp2_with fail
          refine HC.out.mono ?_
          rintro e w1 ⟨rfl, F', hp1, hg1⟩
          have HP1 := Pl.hid hp1
          have HG1 := Pl.hid hg1
          clear hp1 hg1 c5 c3 c0 hq
          go_wp2_with fail
          go_ret
          exact ⟨rfl, F', HP1.out, HG1.out⟩
        · rw [if_neg h42]
          have HC := Pl.hid (pinline_walk p g o c l bv st F W w hpW hR hI hW hl hc h0 hm hp he (by omega))
          have hq : (Pl.at_ l 0 == 42) = false := by
            refine beq_eq_false_iff_ne.2 fun e => h42 ?_
            cases l with
            | nil => exact absurd h0 (by simp)
            | cons d l => exact congrArg some (UInt8.toNat_inj.1 (by have : ((d.toNat : Nat) : Int) = 42 := e; show d.toNat = 42; omega))
          generalize Pl.at_ l 0 = a0 at c0 hq
          clear hR hE hI hW hp hm h42 h4 h5 he hl0 hf hpW
          go_enter Tryd.func59, Tryd.ntmps59
          go_wp2_with fail
          refine HC.out.mono ?_
          rintro e w1 ⟨rfl, F', hp1, hg1⟩
          have HP1 := Pl.hid hp1
          have HG1 := Pl.hid hg1
          clear hp1 hg1 c5 c3 c0 hq
          go_wp2_with fail
          go_ret
          exact ⟨rfl, F', HP1.out, HG1.out⟩
      · rw [if_pos hf]
        have HC := Pl.hid (length_walk p g o c l bv st F W w hpW hR hE hW hl hc h0 hm hp he (h5 he) (by omega))
        clear hR hE hI hW hp hm h4 h5 he c0 hpW
        go_enter Tryd.func59, Tryd.ntmps59
        go_wp2_with fail
        refine HC.out.mono ?_
        rintro e w1 ⟨rfl, F', hp1, hg1⟩
        have HP1 := Pl.hid hp1
        have HG1 := Pl.hid hg1
        clear hp1 hg1 c5 c3
        go_wp2_with fail
        go_ret
        exact ⟨rfl, F', HP1.out, HG1.out⟩
    · rw [if_pos hn]
      have HC := Pl.hid (word_walk p g o c l bv st F W w hpW hR hW hl hc hm hp he hn h2 (h4 hn) h3 (by omega) (by omega) (by omega))
      clear hR hE hI hW hp hm h4 h5 he c0 hpW c3
      go_enter Tryd.func59, Tryd.ntmps59
      go_wp2_with fail
      refine HC.out.mono ?_
      rintro e w1 ⟨rfl, F', hp1, hg1⟩
      have HP1 := Pl.hid hp1
      have HG1 := Pl.hid hg1
      clear hp1 hg1 c5
      go_wp2_with fail
      go_ret
      exact ⟨rfl, F', HP1.out, HG1.out⟩
end Go.Proofs.YtakldjdohgmeiaaDoor

namespace Go.Proofs.YtakldjdohgmeiaaDoor
open Go.RowKit
set_option maxRecDepth 20000

namespace Pl
def feedA (st : Pst) (buf b : List UInt8) : Pst × List UInt8 :=
  if (feedM ((buf ++ b).length + 1) st (buf ++ b)).1.err = true then ({ (feedM ((buf ++ b).length + 1) st (buf ++ b)).1 with used := 0, words := [] }, []) else feedM ((buf ++ b).length + 1) st (buf ++ b)
theorem feedM_err {f : Nat} {st : Pst} {l : List UInt8} (h : st.err = true) : feedM (f + 1) st l = (st, l) := by unfold feedM; rw [if_pos h]
theorem feedM_stop {f : Nat} {st : Pst} {l : List UInt8} (h : st.err = false) (hn : (partM st l).1 = 0) : feedM (f + 1) st l = ((partM st l).2, l) := by unfold feedM; rw [if_neg (by rw [h]; simp), if_pos hn]
theorem feedM_go {f : Nat} {st : Pst} {l : List UInt8} (h : st.err = false) (hn : (partM st l).1 ≠ 0) : feedM (f + 1) st l = feedM f (partM st l).2 (l.drop (partM st l).1) := by
  conv => lhs; unfold feedM
  rw [if_neg (by rw [h]; simp), if_neg hn]
theorem feedA_err {st st' : Pst} {buf b T r : List UInt8} (h : buf ++ b = T) (hf : feedM (T.length + 1) st T = (st', r)) (he : st'.err = true) : feedA st buf b = ({ st' with used := 0, words := [] }, []) := by
  unfold feedA
  rw [h, hf]
  exact if_pos he
theorem feedA_ok {st st' : Pst} {buf b T r : List UInt8} (h : buf ++ b = T) (hf : feedM (T.length + 1) st T = (st', r)) (he : st'.err = false) : feedA st buf b = (st', r) := by
  unfold feedA
  rw [h, hf]
  exact if_neg (by rw [he]; simp)
end Pl

namespace Mm
open Pl
/-- a slice of bytes that came in -/
def Bs (w : World) (v : Value) (l : List UInt8) : Prop := ∃ a c, v = .slice a l.length c ∧ l.length ≤ c ∧ (a = none → c = 0) ∧ (0 < l.length → ∃ g o, a = some ⟨g, o, none⟩ ∧ BytesAt w g o l)
theorem Bs.rest {w : World} {v : Value} {l : List UInt8} (h : Bs w v l) : Rest w v l := by
  obtain ⟨a, c, h1, h2, _, h4⟩ := h
  exact ⟨a, c, h1, h2, h4⟩
theorem OwnB.bs {w : World} {b : Nat} {v : Value} {l : List UInt8} (h : OwnB w b v l) : Bs w v l := by
  obtain ⟨a, c, rfl, h0 | ⟨g, rfl, _, hg, hle⟩⟩ := h.val
  · exact ⟨_, _, rfl, by omega, fun _ => h0.2.2, fun h => by omega⟩
  · exact ⟨_, _, rfl, hle, fun e => (by cases e), fun _ => ⟨g, 0, rfl, h.bytesAt⟩⟩
theorem Bs.keep {w w' : World} {v : Value} {l : List UInt8} (h : Bs w v l) (hb : ∀ a n c g o, v = .slice a n c → a = some ⟨g, o, none⟩ → 0 < n → g < w.heap.size → w'.heap[g]? = w.heap[g]?) : Bs w' v l := by
  obtain ⟨a, c, h1, h2, h3, h4⟩ := h
  refine ⟨a, c, h1, h2, h3, fun hl => ?_⟩
  obtain ⟨g, o, e, hm⟩ := h4 hl
  exact ⟨g, o, e, hm.keep (hb a _ c g o h1 e hl (hm.lt hl))⟩
/-- 'append(s, b...)' -/
theorem wp_appW {ops : Array Oper} {rest : List Oper} {o : Oper} {a : Act} {Q : Exit → Act → World → Prop} (w : World) (hgd : o.guard = none) (x y : Operand)
    (ho : o.op = .call { callee := .builtin .append, args := #[x, y], argTypes := #[24, 24] })
    (base : Nat) (v : Value) (l : List UInt8) (hx : a.eval x = v) (h : OwnB w base v l) (vy : Value) (m : List UInt8) (hy : a.eval y = vy) (hm : Bs w vy m)
    (hl : l.length + m.length ≤ 140737488355328) (hbase : base ≤ w.heap.size)
    (hK : ∀ v' w', OwnB w' base v' (l ++ m) → w.grownBy w' v.ownBlock → (v'.ownBlock = v.ownBlock ∨ v'.ownBlock = some w.heap.size) → wpList Tryd.prog ops Q rest (a.put o.dst v') w') :
    wpList Tryd.prog ops Q (o :: rest) a w := by
  obtain ⟨i0, hi, hz0, hz1, hz2⟩ := info_parts Tryd.info_u8
  obtain ⟨p, c, rfl, hc, hn, hb⟩ := hm
  have hlen : (bytesV m).length = m.length := by simp [bytesV]
  cases p with
  | none =>
    obtain rfl := hn rfl
    have h0 : m.length = 0 := by omega
    obtain rfl : m = [] := List.eq_nil_of_length_eq_zero h0
    refine wpList_append_own_none hgd x y 24 ho base 5 i0 1 Tryd.underlying24 hi v l.length (bytesV l) hx h hy ?_
    exact hK v w (by rw [List.append_nil]; exact h) ⟨rfl, rfl, rfl, Nat.le_refl _, fun _ _ _ => rfl⟩ (.inl rfl)
  | some ad =>
    refine wpList_append_own_at _ hgd x y 24 ho base 5 i0 (.int .u8 0) 1 1 Tryd.underlying24 hi hz0 hz1 hz2 rfl (by decide) v l.length (bytesV l) hx h ad m.length c (bytesV m) hy (by rw [hlen]; omega) ?_ (bytesV_one m) ?_ (by omega) hbase ?_
    · intro j u hj
      have hj' : j < m.length := by
        have := (List.getElem?_eq_some_iff.1 hj).1
        simpa [bytesV] using this
      obtain ⟨g, off, e, hm⟩ := hb (by omega)
      injection e with e
      subst e
      have e : (⟨g, off, none⟩ : Addr).add j = ⟨g, off + j, none⟩ := by unfold Addr.add; split <;> simp_all
      rw [e, hm j hj']
      simp only [bytesV, List.getElem?_map, List.getElem?_eq_getElem hj', Option.map_some, Option.some.injEq] at hj
      rw [← hj]
      unfold at_ byteV
      rw [List.getD_eq_getElem?_getD, List.getElem?_eq_getElem hj']
      rfl
    · unfold maxLen; omega
    · intro v' w' h1 h2 _ h4
      refine hK v' w' ?_ h2 h4
      unfold OwnB
      rw [bytesV_append, List.length_append]
      exact h1
theorem PQ.lt {w : World} {p : Nat} {bv : Value} {st : Pst} {F : Nat → Prop} (h : PQ w p bv st F) (g : Nat) (hg : F g) : p ≤ g ∧ g < w.heap.size := by
  obtain ⟨wv, rv, ev, rows, h, rfl⟩ := h
  rcases hg with rfl | hg | hg | ⟨v, hv, hg⟩
  · exact ⟨Nat.le_refl _, h.lt⟩
  · have := h.2.1.lt g hg; omega
  · have := h.2.2.1.lt g hg; omega
  · obtain ⟨l, hl⟩ := h.2.2.2.1.row hv
    have := hl.lt g hg
    omega
theorem PQ.own {w : World} {p : Nat} {bv : Value} {st : Pst} {F : Nat → Prop} (h : PQ w p bv st F) : F p := by
  obtain ⟨wv, rv, ev, rows, h, rfl⟩ := h
  exact .inl rfl
theorem PV.keepF {w w' : World} {p : Nat} {bv wv rv ev : Value} {st : Pst} {rows : List Value} (h : PV w p bv st wv rv ev rows) (hb : ∀ g, g < w.heap.size → foot p wv rv rows g → w'.heap[g]? = w.heap[g]?) : PV w' p bv st wv rv ev rows :=
  ⟨(hb p h.lt (.inl rfl)).trans h.1, h.2.1.keep (fun g hg => hb g (h.2.1.lt g hg).2 (.inr (.inl hg))), ownsRow_keep h.2.2.1 (fun g hg => hb g (h.2.2.1.lt g hg).2 (.inr (.inr (.inl hg)))), h.2.2.2.1.keep (fun v hv g hg => by
    obtain ⟨l, ho⟩ := h.2.2.2.1.row hv
    exact hb g (ho.lt g hg).2 (.inr (.inr (.inr ⟨v, hv, hg⟩)))), h.2.2.2.2⟩
theorem Chg.or {w w' : World} {F F' : Nat → Prop} (h : Chg w F w' F') (v : Value) : Chg w (fun g => F g ∨ v.ownBlock = some g) w' (fun g => F' g ∨ v.ownBlock = some g) :=
  ⟨h.os, h.tape, h.output, h.size, fun g hg hn => h.block g hg (fun hf => hn (.inl hf)), fun g hg => by
    rcases hg with hg | hg
    · rcases h.foot g hg with h | h
      · exact .inl (.inl h)
      · exact .inr h
    · exact .inl (.inr hg)⟩
/-- the stretch lies in the row's block -/
def InB (rv v : Value) : Prop := ∀ a n c g o, rv = .slice a n c → a = some ⟨g, o, none⟩ → 0 < n → v.ownBlock = some g
theorem OwnB.inB {w : World} {b : Nat} {v : Value} {l : List UInt8} (h : OwnB w b v l) : InB v v := by
  intro a n c g o e ha hn
  subst e ha
  rcases h.2 with ⟨e, h0⟩ | ⟨g', cap, cur, e, _⟩
  · injection e with e1 e2
    cases e1
  · injection e with e1 e2
    injection e1 with e1
    injection e1 with e1 e3
    subst e1 e3
    rfl
def sliceN : Value → Nat | .slice _ n _ => n | _ => 0
/-- a parser, whose bytes are held in blocks of its own; G: what it may change -/
def PB (w : World) (p : Nat) (buf : List UInt8) (st : Pst) (G : Nat → Prop) : Prop :=
  ∃ bv F, PQ w p bv st F ∧ OwnB w (p + 1) bv buf ∧ (∀ g, bv.ownBlock = some g → ¬ F g) ∧ ∀ g, G g ↔ F g ∨ bv.ownBlock = some g
end Mm

set_option maxHeartbeats 8000000 in
theorem feed_walk (p : Nat) (v : Value) (b buf : List UInt8) (st : Pl.Pst) (G : Nat → Prop) (W w : World) (hpW : W.heap.size ≤ p) (hR : Mm.RErr W) (hE : Mm.Errs W) (hI : Mm.InlE W) (hW : Below W.heap.size W w) (hl : b.length ≤ 16777216) (hbl : buf.length ≤ 16777216) (hv : Mm.Bs w v b)
    (hp : Mm.PB w p buf st G) (he : st.err = false) (hok : Pl.okP st) (U : Nat) (hb : Pl.bnd st U) (hU : U + buf.length + b.length ≤ 1099511627776) :
    Calls Tryd.prog 41 #[.pointer (some ⟨p, 0, none⟩), v] w fun e w' => e = .returned (.int .i64 0) ∧ ∃ G', Mm.PB w' p (Pl.feedA st buf b).2 (Pl.feedA st buf b).1 G' ∧ Mm.Chg w G w' G' := by
  obtain ⟨bv, F, hq, ho, hd, hG⟩ := hp
  obtain ⟨wv, rv, ev, rows, hpv, hF⟩ := hq
  obtain ⟨a, c, rfl, hc, hn, hbytes⟩ := hv
  have hev : ev = .nilIface := by
    rcases hpv.2.2.2.2.2.2 with ⟨e, _⟩ | ⟨_, e⟩
    · rw [he] at e; cases e
    · exact e
  subst hev
  have HBs : Hid (Mm.Bs w (.slice a b.length c) b) := ⟨a, c, rfl, hc, hn, hbytes⟩
  have c7 := hpv.cell 7 .nilIface rfl
  have c0 := hpv.cell 0 bv rfl
  have HV := Pl.hid hpv
  have HF := Pl.hid hF
  have HO := Pl.hid ho
  have HD := Pl.hid hd
  have HGG := Pl.hid hG
  have HR := Pl.hid hR
  have HE := Pl.hid hE
  have HI := Pl.hid hI
  have HW := Pl.hid hW
  have HPW := Pl.hid hpW
  have hpl := hpv.lt
  have HPL := Pl.hid hpl
  have HB := Pl.hid hb
  have HOK := Pl.hid hok
  have He := Pl.hid he
  have HLEN : Hid (buf.length + b.length ≤ 140737488355328) := by show _ ≤ _; omega
  clear hpv hF ho hd hG hR hE hI hW hpW hbytes hc hn hb hok he
  have hTl : (buf ++ b).length = buf.length + b.length := List.length_append
  obtain ⟨T, hT⟩ : ∃ T, buf ++ b = T := ⟨_, rfl⟩
  rw [hT] at hTl
  have HT := Pl.hid hT
  have HTL := Pl.hid hTl
  clear hT hTl
  go_enter Tryd.func41, Tryd.ntmps41
  go_wp2_with (at_builtin; refine Mm.wp_appW w rfl _ _ (by rfl) (p + 1) bv buf (by rfl) HO.out _ b (by rfl) HBs.out HLEN.out hpl ?_; intro v1 w1 ho1 hg1 hat1; refine Hid.out ?_)
  refine Pl.hid ?_
  rw [HT.out] at ho1
  obtain ⟨a1, c1, rfl, hv1⟩ := ho1.val
  have HF1 : Hid (∀ g, (Value.slice a1 T.length c1).ownBlock = some g → ¬ F g) := fun g hg hf => by
    rcases hat1 with e | e
    · exact HD.out g (by rw [← e]; exact hg) hf
    · rw [e] at hg
      injection hg with hg
      have := (Mm.PQ.lt ⟨wv, rv, _, rows, HV.out, HF.out⟩ g hf).2
      omega
  have HV1 : Hid (Mm.PV w1 p bv st wv rv .nilIface rows) := HV.out.keepF fun g hgl hf => hg1.block g hgl (fun e => HD.out g e.symm (by rw [HF.out]; exact hf))
  have HO1 := Pl.hid ho1
  have HG1 := Pl.hid hg1
  have HAT := Pl.hid hat1
  have hpl1 := HV1.out.lt
  clear ho1 hg1 hat1 hv1 c7 c0
  go_wp2_with (first | (refine Mm.wp_storeF _ rfl 24 _ _ (by rfl) (by kernel_rfl) p 0 90 (Mm.cellsP bv wv rv .nilIface st) _ HV1.out.1 (by rfl) (by rfl) (by simp [Mm.cellsP]) rfl rfl ?_; intro w2 h2 hz2 hg2; refine Hid.out ?_))
  refine Pl.hid ?_
  have HV2 : Hid (Mm.PV w2 p (.slice a1 T.length c1) st wv rv .nilIface rows) := HV1.out.store hg2 h2 rfl rfl HV1.out.2.2.2.2.2.2
  have HO2 : Hid (Mm.OwnB w2 (p + 1) (.slice a1 T.length c1) T) := HO1.out.keep fun g hg => hg2.block g (HO1.out.lt g hg).2 (fun e => by injection e with e; have := (HO1.out.lt g hg).1; omega)
  have HC2 : Hid (Mm.Chg w G w2 (fun g => F g ∨ (Value.slice a1 T.length c1).ownBlock = some g)) := by
    have hz := HG1.out.size
    refine ⟨hg2.os.trans HG1.out.os, hg2.tape.trans HG1.out.tape, hg2.output.trans HG1.out.output, Nat.le_trans hz hg2.size, fun g hgl hng => ?_, fun g hg => ?_⟩
    · rw [hg2.block g (by omega) (fun e => by injection e with e; exact hng ((HGG.out g).2 (.inl (by rw [HF.out]; exact .inl e)))), HG1.out.block g hgl (fun e => hng ((HGG.out g).2 (.inr e.symm)))]
    · rcases hg with hg | hg
      · exact .inl ((HGG.out g).2 (.inl hg))
      · rcases HAT.out with e | e
        · exact .inl ((HGG.out g).2 (.inr (by rw [← e]; exact hg)))
        · rw [e] at hg
          injection hg with hg
          exact .inr (by omega)
  have HW2 : Hid (Below W.heap.size W w2) := HC2.out.under HW.out fun g hg => by
    rcases (HGG.out g).1 hg with hg | hg
    · have := (Mm.PQ.lt ⟨wv, rv, _, rows, HV.out, HF.out⟩ g hg).1
      have := HPW.out
      omega
    · have := (HO.out.lt g hg).1
      have := HPW.out
      omega
  have c0 := HV2.out.cell 0 (.slice a1 T.length c1) rfl
  clear h2 hz2 hg2
  go_wp2_with fail
  clear c0
  go_loopw [5, 6] (fun rv' _ wr => ∃ (rest : List UInt8) (st1 : Pl.Pst) (F1 : Nat → Prop) (f U1 : Nat) (a2 : Option Addr) (c2 : Nat), rv' = .slice a2 rest.length c2 ∧ Hid (Mm.Bs wr (.slice a2 rest.length c2) rest ∧ Mm.InB (.slice a2 rest.length c2) (.slice a1 T.length c1)) ∧ rest.length ≤ T.length ∧
      Hid (Mm.PQ wr p (.slice a1 T.length c1) st1 F1) ∧ Hid (Mm.Chg w2 F wr F1) ∧ Hid (Mm.OwnB wr (p + 1) (.slice a1 T.length c1) T) ∧ Hid (∀ g, (Value.slice a1 T.length c1).ownBlock = some g → ¬ F1 g) ∧
      Hid (Pl.feedM f st1 rest = Pl.feedM (T.length + 1) st T) ∧ Hid (rest.length < f) ∧ Hid (Pl.okP st1) ∧ Hid (Pl.bnd st1 U1) ∧ U1 + rest.length ≤ U + T.length ∧ Hid (rest.length = T.length → rest = T)) (fun rv' _ _ => Mm.sliceN rv')
  case atStart => exact ⟨T, st, F, T.length + 1, U, a1, c1, rfl, ⟨HO2.out.bs, HO2.out.inB⟩, Nat.le_refl _, ⟨wv, rv, .nilIface, rows, HV2.out, HF.out⟩, Mm.Chg.refl _ _, HO2.out, HF1.out, rfl, Nat.lt_succ_self _, HOK.out, HB.out, Nat.le_refl _, fun _ => rfl⟩
  case round =>
    obtain ⟨rest, st1, F1, f, U1, a2, c2, rfl, HBR, hrl, HQ, HCH, HOW, HDJ, HFM, HLF, HOK1, HB1, hU1, HEQ⟩ := hrel
    obtain ⟨f, rfl⟩ : ∃ f', f = f' + 1 := ⟨f - 1, by have := HLF.out; omega⟩
    have HWr : Hid (Below W.heap.size W wr) := HCH.out.under HW2.out fun g hg => by
      have := (Mm.PQ.lt ⟨wv, rv, _, rows, HV2.out, HF.out⟩ g hg).1
      have := HPW.out
      omega
    obtain ⟨wv1, rv1, ev1, rows1, hpv1, hF1⟩ := HQ.out
    cases he1 : st1.err with
    | true =>
      obtain ⟨T3, x3, rfl⟩ : ∃ T x, ev1 = .iface T x := by
        rcases hpv1.2.2.2.2.2.2 with ⟨_, h⟩ | ⟨h, _⟩
        · exact h
        · rw [he1] at h; cases h
      have HERR := Pl.hid he1
      have HFMX : Hid (Pl.feedM (T.length + 1) st T = (st1, rest)) := HFM.out.symm.trans (Pl.feedM_err he1)
      have c7 := hpv1.cell 7 (.iface T3 x3) rfl
      have HVX := Pl.hid hpv1
      have HFX := Pl.hid hF1
      have HCX := HCH
      have HOX := HOW
      have HDX := HDJ
      have HRX : Hid (Mm.Bs wr (.slice a2 rest.length c2) rest) := HBR.out.1
      clear hpv1 hF1 he1
      have c0 := HVX.out.cell 0 (.slice a1 T.length c1) rfl
      have hplX := HVX.out.lt
      have hl47 : ([] : List UInt8).length + rest.length ≤ 140737488355328 := by have := HTL.out; simp; omega
      have HPQX : Hid (Mm.PQ wr p (.slice a1 T.length c1) st1 F1) := ⟨_, _, _, _, HVX.out, HFX.out⟩
      have HGX : Hid (Mm.Chg w G wr (fun g => F1 g ∨ (Value.slice a1 T.length c1).ownBlock = some g)) := HC2.out.trans (HCX.out.or _)
      rcases Nat.lt_or_ge rest.length T.length with hlt | hge
      · go_wp2_with (first
          | (at_builtin; refine Mm.wp_appW wr rfl _ _ (by rfl) (p + 1) (.slice none 0 0) [] (by rfl) (Mm.ownB_nil _ _) _ rest (by rfl) HRX.out hl47 hplX ?_; intro v5 w5 ho5 hg5 hat5; obtain ⟨a5, k5, rfl, _⟩ := ho5.val; have HO5 := Pl.hid ho5; have HG5 := Pl.hid hg5; have HAT5 := Pl.hid hat5; have HV5 := Pl.hid (HVX.out.below ((Below.refl _ _).grown HG5.out (Nat.le_refl _) (fun k hk => by cases hk))); clear ho5 hg5 hat5)
          | (refine Mm.wp_storeF _ rfl 24 _ _ (by rfl) (by kernel_rfl) p 0 90 _ _ H6.out (by rfl) (by rfl) (by simp [Mm.cellsP]) rfl rfl ?_; intro w7 h7 hz7 hg7; have H7 := Pl.hid h7; have HG7 := Pl.hid hg7; clear h7 hz7 hg7; clear c7)
          | (refine Mm.wp_storeF _ rfl 24 _ _ (by rfl) (by kernel_rfl) p 0 90 (Mm.cellsP (.slice a1 T.length c1) wv1 rv1 (Value.iface T3 x3) st1) _ HV5.out.1 (by rfl) (by rfl) (by simp [Mm.cellsP]) rfl rfl ?_; intro w6 h6 hz6 hg6; have H6 := Pl.hid h6; have HG6 := Pl.hid hg6; clear h6 hz6 hg6; have c7 := Mm.cellOf (i := 7) (v := (Value.iface T3 x3)) H6.out rfl)
          | (refine Mm.wp_storeF _ rfl 3 _ _ (by rfl) (by kernel_rfl) p 1 90 _ _ H7.out (by rfl) (by rfl) (by simp [Mm.cellsP]) rfl rfl ?_; intro w8 h8 hz8 hg8; have H8 := Pl.hid h8; have HG8 := Pl.hid hg8; clear h8 hz8 hg8)
          | (refine Mm.wp_storeF _ rfl 22 _ _ (by rfl) (by kernel_rfl) p 2 90 _ _ H8.out (by rfl) (by rfl) (by simp [Mm.cellsP]) rfl rfl ?_; intro w9 h9 hz9 hg9; have H9 := Pl.hid h9; have HG9 := Pl.hid hg9; clear h9 hz9 hg9))
        go_ret
        rw [Pl.feedA_err HT.out HFMX.out HERR.out]
        have hgz := Mm.gTrans HG6.out (Mm.gTrans HG7.out (Mm.gTrans HG8.out HG9.out))
        have hvz := HV5.out
        have hbz : Below wr.heap.size wr w5 := (Below.refl _ _).grown HG5.out (Nat.le_refl _) (fun k hk => by cases hk)
        refine ⟨rfl, _, ⟨.slice none 0 0, Mm.foot p (.slice none 0 0) rv1 rows1, ⟨_, _, _, _, hvz.clear hgz H9.out rfl rfl ?_, rfl⟩, Mm.ownB_nil _ _, fun g hg => (by cases hg), fun g => Iff.rfl⟩, ?_⟩
        · first | exact HVX.out.2.2.2.2.2.2 | exact .inl ⟨rfl, _, _, rfl⟩ | exact .inl ⟨HERR.out, _, _, rfl⟩
        · refine HGX.out.trans ((Mm.Chg.below hbz).trans (Mm.Chg.grown hgz (fun g e => by injection e with e; exact .inl (by rw [HFX.out]; exact .inl e.symm)) (fun g hg => ?_)))
          rcases hg with (h | h | h) | h
          · exact .inl (.inl (by rw [HFX.out]; exact .inl h))
          · cases h
          · exact .inl (.inl (by rw [HFX.out]; exact .inr (.inr h)))
          · cases h
      · obtain rfl : rest = T := HEQ.out (by omega)
        go_wp2_with (first
          | (refine Mm.wp_storeF _ rfl 24 _ _ (by rfl) (by kernel_rfl) p 0 90 (Mm.cellsP (.slice a1 rest.length c1) wv1 rv1 (Value.iface T3 x3) st1) _ HVX.out.1 (by rfl) (by rfl) (by simp [Mm.cellsP]) rfl rfl ?_; intro w7 h7 hz7 hg7; have H7 := Pl.hid h7; have HG7 := Pl.hid hg7; clear h7 hz7 hg7; clear c7)
          | (refine Mm.wp_storeF _ rfl 3 _ _ (by rfl) (by kernel_rfl) p 1 90 _ _ H7.out (by rfl) (by rfl) (by simp [Mm.cellsP]) rfl rfl ?_; intro w8 h8 hz8 hg8; have H8 := Pl.hid h8; have HG8 := Pl.hid hg8; clear h8 hz8 hg8)
          | (refine Mm.wp_storeF _ rfl 22 _ _ (by rfl) (by kernel_rfl) p 2 90 _ _ H8.out (by rfl) (by rfl) (by simp [Mm.cellsP]) rfl rfl ?_; intro w9 h9 hz9 hg9; have H9 := Pl.hid h9; have HG9 := Pl.hid hg9; clear h9 hz9 hg9))
        go_ret
        rw [Pl.feedA_err HT.out HFMX.out HERR.out]
        have hgz := Mm.gTrans HG7.out (Mm.gTrans HG8.out HG9.out)
        refine ⟨rfl, _, ⟨.slice none 0 0, Mm.foot p (.slice none 0 0) rv1 rows1, ⟨_, _, _, _, HVX.out.clear hgz H9.out rfl rfl ?_, rfl⟩, Mm.ownB_nil _ _, fun g hg => (by cases hg), fun g => Iff.rfl⟩, ?_⟩
        · first | exact HVX.out.2.2.2.2.2.2 | exact .inl ⟨rfl, _, _, rfl⟩ | exact .inl ⟨HERR.out, _, _, rfl⟩
        · refine HGX.out.trans (Mm.Chg.grown hgz (fun g e => by injection e with e; exact .inl (by rw [HFX.out]; exact .inl e.symm)) (fun g hg => ?_))
          rcases hg with (h | h | h) | h
          · exact .inl (.inl (by rw [HFX.out]; exact .inl h))
          · cases h
          · exact .inl (.inl (by rw [HFX.out]; exact .inr (.inr h)))
          · cases h
    | false =>
      obtain rfl : ev1 = .nilIface := by
        rcases hpv1.2.2.2.2.2.2 with ⟨h, _⟩ | ⟨_, h⟩
        · rw [he1] at h; cases h
        · exact h
      have c7 := hpv1.cell 7 .nilIface rfl
      have hpo := Pl.part_ok (l := rest) HOK1.out he1
      have HPC := Pl.hid (part_walk p (.slice a2 rest.length c2) rest (.slice a1 T.length c1) st1 F1 W wr HPW.out HR.out HE.out HI.out HWr.out (by have := HTL.out; omega) HBR.out.1.rest HQ.out he1 HOK1.out U1 HB1.out (by have := HTL.out; omega))
      have HSTOP := Pl.hid (fun h => Pl.feedM_stop (f := f) (l := rest) he1 h)
      have HGO := Pl.hid (fun h => Pl.feedM_go (f := f) (l := rest) he1 h)
      obtain ⟨k, hk⟩ : ∃ k, (Pl.partM st1 rest).1 = k := ⟨_, rfl⟩
      obtain ⟨st2, hst2⟩ : ∃ st2, (Pl.partM st1 rest).2 = st2 := ⟨_, rfl⟩
      rw [hk, hst2] at HPC hpo HSTOP HGO
      have HOK2 := Pl.hid hpo.1
      have HB2 := Pl.hid (hpo.2.2 U1 HB1.out)
      have hkl := hpo.2.1
      clear hk hst2 hpo hpv1 hF1 he1
      go_wp2_with fail
      refine HPC.out.mono ?_
      rintro e w3 ⟨rfl, F2, hq2, hch2⟩
      have hc3 := HCH.out.trans hch2
      have HCX := Pl.hid hc3
      have HBR3 : Hid (Mm.Bs w3 (.slice a2 rest.length c2) rest) := HBR.out.1.keep fun a n c g o e1 e2 e3 e4 => hch2.block g e4 (HDJ.out g (HBR.out.2 a n c g o e1 e2 e3))
      have HOX : Hid (Mm.OwnB w3 (p + 1) (.slice a1 T.length c1) T) := HOW.out.keep fun g hg => hch2.block g (HOW.out.lt g hg).2 (HDJ.out g hg)
      have HDX : Hid (∀ g, (Value.slice a1 T.length c1).ownBlock = some g → ¬ F2 g) := fun g hg hf => by
        rcases hch2.foot g hf with h | h
        · exact HDJ.out g hg h
        · have := (HOW.out.lt g hg).2
          omega
      have HQ2 := Pl.hid hq2
      clear c7 hch2 hc3 hq2
      rcases Nat.eq_zero_or_pos k with hk0 | hk0
      · subst hk0
        have HFMX : Hid (Pl.feedM (T.length + 1) st T = (st2, rest)) := HFM.out.symm.trans (HSTOP.out rfl)
        have HRX := HBR3
        obtain ⟨wvX, rvX, evX, rowsX, hpvX, hFX⟩ := HQ2.out
        have HVX := Pl.hid hpvX
        have HFX := Pl.hid hFX
        clear hpvX hFX
        have c7 := HVX.out.cell 7 evX rfl
        cases he2 : st2.err with
        | true =>
          have HERR := Pl.hid he2
          obtain ⟨T3, x3, rfl⟩ : ∃ T x, evX = .iface T x := by
            rcases HVX.out.2.2.2.2.2.2 with ⟨_, h⟩ | ⟨h, _⟩
            · exact h
            · rw [he2] at h; cases h
          clear he2
          have c0 := HVX.out.cell 0 (.slice a1 T.length c1) rfl
          have hplX := HVX.out.lt
          have hl47 : ([] : List UInt8).length + rest.length ≤ 140737488355328 := by have := HTL.out; simp; omega
          have HPQX : Hid (Mm.PQ w3 p (.slice a1 T.length c1) st2 F2) := ⟨_, _, _, _, HVX.out, HFX.out⟩
          have HGX : Hid (Mm.Chg w G w3 (fun g => F2 g ∨ (Value.slice a1 T.length c1).ownBlock = some g)) := HC2.out.trans (HCX.out.or _)
          rcases Nat.lt_or_ge rest.length T.length with hlt | hge
          · go_wp2_with (first
              | (at_builtin; refine Mm.wp_appW w3 rfl _ _ (by rfl) (p + 1) (.slice none 0 0) [] (by rfl) (Mm.ownB_nil _ _) _ rest (by rfl) HRX.out hl47 hplX ?_; intro v5 w5 ho5 hg5 hat5; obtain ⟨a5, k5, rfl, _⟩ := ho5.val; have HO5 := Pl.hid ho5; have HG5 := Pl.hid hg5; have HAT5 := Pl.hid hat5; have HV5 := Pl.hid (HVX.out.below ((Below.refl _ _).grown HG5.out (Nat.le_refl _) (fun k hk => by cases hk))); clear ho5 hg5 hat5)
              | (refine Mm.wp_storeF _ rfl 24 _ _ (by rfl) (by kernel_rfl) p 0 90 _ _ H6.out (by rfl) (by rfl) (by simp [Mm.cellsP]) rfl rfl ?_; intro w7 h7 hz7 hg7; have H7 := Pl.hid h7; have HG7 := Pl.hid hg7; clear h7 hz7 hg7; clear c7)
              | (refine Mm.wp_storeF _ rfl 24 _ _ (by rfl) (by kernel_rfl) p 0 90 (Mm.cellsP (.slice a1 T.length c1) wvX rvX (Value.iface T3 x3) st2) _ HV5.out.1 (by rfl) (by rfl) (by simp [Mm.cellsP]) rfl rfl ?_; intro w6 h6 hz6 hg6; have H6 := Pl.hid h6; have HG6 := Pl.hid hg6; clear h6 hz6 hg6; have c7 := Mm.cellOf (i := 7) (v := (Value.iface T3 x3)) H6.out rfl)
              | (refine Mm.wp_storeF _ rfl 3 _ _ (by rfl) (by kernel_rfl) p 1 90 _ _ H7.out (by rfl) (by rfl) (by simp [Mm.cellsP]) rfl rfl ?_; intro w8 h8 hz8 hg8; have H8 := Pl.hid h8; have HG8 := Pl.hid hg8; clear h8 hz8 hg8)
              | (refine Mm.wp_storeF _ rfl 22 _ _ (by rfl) (by kernel_rfl) p 2 90 _ _ H8.out (by rfl) (by rfl) (by simp [Mm.cellsP]) rfl rfl ?_; intro w9 h9 hz9 hg9; have H9 := Pl.hid h9; have HG9 := Pl.hid hg9; clear h9 hz9 hg9))
            go_ret
            rw [Pl.feedA_err HT.out HFMX.out HERR.out]
            have hgz := Mm.gTrans HG6.out (Mm.gTrans HG7.out (Mm.gTrans HG8.out HG9.out))
            have hvz := HV5.out
            have hbz : Below w3.heap.size w3 w5 := (Below.refl _ _).grown HG5.out (Nat.le_refl _) (fun k hk => by cases hk)
            refine ⟨rfl, _, ⟨.slice none 0 0, Mm.foot p (.slice none 0 0) rvX rowsX, ⟨_, _, _, _, hvz.clear hgz H9.out rfl rfl ?_, rfl⟩, Mm.ownB_nil _ _, fun g hg => (by cases hg), fun g => Iff.rfl⟩, ?_⟩
            · first | exact HVX.out.2.2.2.2.2.2 | exact .inl ⟨rfl, _, _, rfl⟩ | exact .inl ⟨HERR.out, _, _, rfl⟩
            · refine HGX.out.trans ((Mm.Chg.below hbz).trans (Mm.Chg.grown hgz (fun g e => by injection e with e; exact .inl (by rw [HFX.out]; exact .inl e.symm)) (fun g hg => ?_)))
              rcases hg with (h | h | h) | h
              · exact .inl (.inl (by rw [HFX.out]; exact .inl h))
              · cases h
              · exact .inl (.inl (by rw [HFX.out]; exact .inr (.inr h)))
              · cases h
          · obtain rfl : rest = T := HEQ.out (by omega)
            go_wp2_with (first
              | (refine Mm.wp_storeF _ rfl 24 _ _ (by rfl) (by kernel_rfl) p 0 90 (Mm.cellsP (.slice a1 rest.length c1) wvX rvX (Value.iface T3 x3) st2) _ HVX.out.1 (by rfl) (by rfl) (by simp [Mm.cellsP]) rfl rfl ?_; intro w7 h7 hz7 hg7; have H7 := Pl.hid h7; have HG7 := Pl.hid hg7; clear h7 hz7 hg7; clear c7)
              | (refine Mm.wp_storeF _ rfl 3 _ _ (by rfl) (by kernel_rfl) p 1 90 _ _ H7.out (by rfl) (by rfl) (by simp [Mm.cellsP]) rfl rfl ?_; intro w8 h8 hz8 hg8; have H8 := Pl.hid h8; have HG8 := Pl.hid hg8; clear h8 hz8 hg8)
              | (refine Mm.wp_storeF _ rfl 22 _ _ (by rfl) (by kernel_rfl) p 2 90 _ _ H8.out (by rfl) (by rfl) (by simp [Mm.cellsP]) rfl rfl ?_; intro w9 h9 hz9 hg9; have H9 := Pl.hid h9; have HG9 := Pl.hid hg9; clear h9 hz9 hg9))
            go_ret
            rw [Pl.feedA_err HT.out HFMX.out HERR.out]
            have hgz := Mm.gTrans HG7.out (Mm.gTrans HG8.out HG9.out)
            refine ⟨rfl, _, ⟨.slice none 0 0, Mm.foot p (.slice none 0 0) rvX rowsX, ⟨_, _, _, _, HVX.out.clear hgz H9.out rfl rfl ?_, rfl⟩, Mm.ownB_nil _ _, fun g hg => (by cases hg), fun g => Iff.rfl⟩, ?_⟩
            · first | exact HVX.out.2.2.2.2.2.2 | exact .inl ⟨rfl, _, _, rfl⟩ | exact .inl ⟨HERR.out, _, _, rfl⟩
            · refine HGX.out.trans (Mm.Chg.grown hgz (fun g e => by injection e with e; exact .inl (by rw [HFX.out]; exact .inl e.symm)) (fun g hg => ?_))
              rcases hg with (h | h | h) | h
              · exact .inl (.inl (by rw [HFX.out]; exact .inl h))
              · cases h
              · exact .inl (.inl (by rw [HFX.out]; exact .inr (.inr h)))
              · cases h
        | false =>
          have HERR := Pl.hid he2
          obtain rfl : evX = .nilIface := by
            rcases HVX.out.2.2.2.2.2.2 with ⟨h, _⟩ | ⟨_, h⟩
            · rw [he2] at h; cases h
            · exact h
          clear he2
          have c0 := HVX.out.cell 0 (.slice a1 T.length c1) rfl
          have hplX := HVX.out.lt
          have hl47 : ([] : List UInt8).length + rest.length ≤ 140737488355328 := by have := HTL.out; simp; omega
          have HPQX : Hid (Mm.PQ w3 p (.slice a1 T.length c1) st2 F2) := ⟨_, _, _, _, HVX.out, HFX.out⟩
          have HGX : Hid (Mm.Chg w G w3 (fun g => F2 g ∨ (Value.slice a1 T.length c1).ownBlock = some g)) := HC2.out.trans (HCX.out.or _)
          rcases Nat.lt_or_ge rest.length T.length with hlt | hge
          · go_wp2_with (first
              | (at_builtin; refine Mm.wp_appW w3 rfl _ _ (by rfl) (p + 1) (.slice none 0 0) [] (by rfl) (Mm.ownB_nil _ _) _ rest (by rfl) HRX.out hl47 hplX ?_; intro v5 w5 ho5 hg5 hat5; obtain ⟨a5, k5, rfl, _⟩ := ho5.val; have HO5 := Pl.hid ho5; have HG5 := Pl.hid hg5; have HAT5 := Pl.hid hat5; have HV5 := Pl.hid (HVX.out.below ((Below.refl _ _).grown HG5.out (Nat.le_refl _) (fun k hk => by cases hk))); clear ho5 hg5 hat5)
              | (refine Mm.wp_storeF _ rfl 24 _ _ (by rfl) (by kernel_rfl) p 0 90 (Mm.cellsP (.slice a1 T.length c1) wvX rvX Value.nilIface st2) _ HV5.out.1 (by rfl) (by rfl) (by simp [Mm.cellsP]) rfl rfl ?_; intro w6 h6 hz6 hg6; have H6 := Pl.hid h6; have HG6 := Pl.hid hg6; clear h6 hz6 hg6; have c7 := Mm.cellOf (i := 7) (v := Value.nilIface) H6.out rfl))
            go_ret
            rw [Pl.feedA_ok HT.out HFMX.out HERR.out]
            have hbz : Below w3.heap.size w3 w5 := (Below.refl _ _).grown HG5.out (Nat.le_refl _) (fun k hk => by cases hk)
            have hnew : ∀ g, (Value.slice a5 ([] ++ rest).length k5).ownBlock = some g → w3.heap.size ≤ g := fun g hg => by
              rcases HAT5.out with e | e
              · rw [e] at hg; cases hg
              · rw [e] at hg; injection hg with hg; omega
            refine ⟨rfl, _, ⟨_, F2, ⟨wvX, rvX, Value.nilIface, rowsX, HV5.out.store HG6.out H6.out rfl rfl HVX.out.2.2.2.2.2.2, HFX.out⟩, HO5.out.keep (fun g hg => HG6.out.block g (HO5.out.lt g hg).2 (fun e => by injection e with e; have := (HO5.out.lt g hg).1; omega)), fun g hg hf => ?_, fun g => Iff.rfl⟩, ?_⟩
            · have := hnew g hg
              have := (HPQX.out.lt g hf).2
              omega
            · refine HGX.out.trans (Mm.Chg.grown (Mm.gTrans (Mm.gBelow hbz) HG6.out) (fun g e => by injection e with e; exact .inl (by rw [HFX.out]; exact .inl e.symm)) (fun g hg => ?_))
              rcases hg with h | h
              · exact .inl (.inl h)
              · exact .inr (hnew g h)
          · obtain rfl : rest = T := HEQ.out (by omega)
            go_wp2_with fail
            go_ret
            rw [Pl.feedA_ok HT.out HFMX.out HERR.out]
            exact ⟨rfl, _, ⟨_, F2, HPQX.out, HOX.out, HDX.out, fun g => Iff.rfl⟩, HGX.out⟩
      · have hr0 : 0 < rest.length := by omega
        obtain ⟨a', c', e', hc', _, hby⟩ := HBR3.out
        injection e' with e1 e2 e3
        subst e1 e3
        obtain ⟨g0, o0, rfl, hm0⟩ := hby hr0
        have hkz : ((k : Int) == 0) = false := beq_eq_false_iff_ne.2 (by omega)
        have HM0 := Pl.hid hm0
        have HFM2 : Hid (Pl.feedM f st2 (rest.drop k) = Pl.feedM (T.length + 1) st T) := (HGO.out (by omega)).symm.trans HFM.out
        have hdl : (rest.drop k).length = rest.length - k := List.length_drop
        have HDL := Pl.hid hdl
        have HIB := Pl.hid (HBR.out.2 _ _ _ g0 o0 rfl rfl hr0)
        have HDR : Hid (∀ aa cc, rest.length - k ≤ cc → (rest.length - k = 0 ∨ aa = some ⟨g0, o0 + k, none⟩) → (aa = none → cc = 0) → Mm.Bs w3 (.slice aa (rest.drop k).length cc) (rest.drop k) ∧ Mm.InB (.slice aa (rest.drop k).length cc) (.slice a1 T.length c1)) := fun aa cc h1 h2 h3 => by
          refine ⟨⟨aa, cc, rfl, by rw [HDL.out]; exact h1, h3, fun hp => ?_⟩, fun a n c g o e1 e2 e3 => ?_⟩
          · rcases h2 with h2 | h2
            · rw [HDL.out] at hp; omega
            · exact ⟨g0, o0 + k, h2, HM0.out.drop k⟩
          · injection e1 with e1 e4 e5
            rcases h2 with h2 | h2
            · rw [HDL.out] at e4; omega
            · rw [← e1, h2] at e2
              injection e2 with e2
              injection e2 with e2
              subst e2
              exact HIB.out
        have hlf := HLF.out
        have REL : Hid (∀ aa cc, rest.length - k ≤ cc → (rest.length - k = 0 ∨ aa = some ⟨g0, o0 + k, none⟩) → (aa = none → cc = 0) → ∃ (rest' : List UInt8) (st1 : Pl.Pst) (F1 : Nat → Prop) (f U1 : Nat) (a2 : Option Addr) (c2 : Nat), Value.slice aa (rest.length - k) cc = .slice a2 rest'.length c2 ∧ Hid (Mm.Bs w3 (.slice a2 rest'.length c2) rest' ∧ Mm.InB (.slice a2 rest'.length c2) (.slice a1 T.length c1)) ∧ rest'.length ≤ T.length ∧
            Hid (Mm.PQ w3 p (.slice a1 T.length c1) st1 F1) ∧ Hid (Mm.Chg w2 F w3 F1) ∧ Hid (Mm.OwnB w3 (p + 1) (.slice a1 T.length c1) T) ∧ Hid (∀ g, (Value.slice a1 T.length c1).ownBlock = some g → ¬ F1 g) ∧
            Hid (Pl.feedM f st1 rest' = Pl.feedM (T.length + 1) st T) ∧ Hid (rest'.length < f) ∧ Hid (Pl.okP st1) ∧ Hid (Pl.bnd st1 U1) ∧ U1 + rest'.length ≤ U + T.length ∧ Hid (rest'.length = T.length → rest' = T)) := fun aa cc h1 h2 h3 =>
          ⟨rest.drop k, st2, F2, f, U1 + k, aa, cc, by rw [HDL.out], HDR.out aa cc h1 h2 h3, by rw [HDL.out]; omega, HQ2.out, HCX.out, HOX.out, HDX.out, HFM2.out, (by show _ < _; rw [HDL.out]; have := HLF.out; omega), HOK2.out, HB2.out, by rw [HDL.out]; omega, fun e => by rw [HDL.out] at e; omega⟩
        clear hdl hlf hby hm0 HDR
        rcases Decidable.em (c2 = k) with hck | hck
        · subst hck
          have hrk : rest.length = c2 := by omega
          go_wp2_with fail
          go_roundw
          case rel =>
            have hrel := REL.out (some ⟨g0, o0, none⟩) 0 (by omega) (.inl (by omega)) (fun e => rfl)
            rwa [show rest.length - c2 = 0 by omega] at hrel
          case measure => simp only [Mm.sliceN]; omega
        · go_wp2_with fail
          go_roundw
          case rel => exact REL.out _ _ (by omega) (.inr rfl) (fun e => by cases e)
          case measure => simp only [Mm.sliceN]; omega
end Go.Proofs.YtakldjdohgmeiaaDoor

namespace Go.Proofs.YtakldjdohgmeiaaDoor
open Go.RowKit
set_option maxRecDepth 20000

namespace Pl
theorem dec_val (s : ByteArray) (h : 0 < s.size) (hh : 128 ≤ (s.get! 0).toNat) (hne : (Utf8.decode s 0).1 ≠ 65533) :
    ((Utf8.decode s 0).2 = 2 ∧ (Utf8.decode s 0).1 < 2048) ∨ ((Utf8.decode s 0).2 = 3 ∧ (Utf8.decode s 0).1 < 65536) ∨ (Utf8.decode s 0).2 = 4 := by
  rw [Lib.decode_at] at *
  revert hne
  obtain ⟨q, hq⟩ : ∃ q, q = Lib.decodeN (s.size - 0) (s.get! 0).toNat (s.get! (0 + 1)).toNat (s.get! (0 + 2)).toNat (s.get! (0 + 3)).toNat := ⟨_, rfl⟩
  rw [← hq]
  unfold Lib.decodeN at hq
  intro hne
  repeat' split at hq
  all_goals (subst hq; first | exact absurd rfl hne | exact .inl ⟨rfl, by show _ < 2048; omega⟩ | exact .inr (.inl ⟨rfl, by show _ < 65536; omega⟩) | exact .inr (.inr rfl) | (exfalso; omega))
theorem enc_len (r : Int) (h : 128 ≤ r) : (r < 2048 → (Utf8.encode r).size = 2) ∧ (r < 65536 → (Utf8.encode r).size ≤ 3) ∧ 2 ≤ (Utf8.encode r).size ∧ (Utf8.encode r).size ≤ 4 := by
  unfold Utf8.encode
  obtain ⟨c, hc⟩ : ∃ c, c = (if Utf8.valid r then r.toNat else Utf8.runeError) := ⟨_, rfl⟩
  simp only [← hc]
  have h0 : 128 ≤ c := by rw [hc]; split <;> (try simp only [Utf8.runeError]) <;> omega
  have h1 : r < 65536 → c < 65536 := fun hr => by rw [hc]; split <;> (try simp only [Utf8.runeError]) <;> omega
  have h2 : r < 2048 → c < 2048 := fun hr => by
    rw [hc]
    have hv : Utf8.valid r = true := by unfold Utf8.valid; simp; omega
    rw [if_pos hv]
    omega
  rw [if_neg (by omega)]
  by_cases g1 : c < 0x800
  · rw [if_pos g1]
    exact ⟨fun _ => rfl, fun _ => show (2 : Nat) ≤ 3 by decide, show (2 : Nat) ≤ 2 by decide, show (2 : Nat) ≤ 4 by decide⟩
  · rw [if_neg g1]
    by_cases g2 : c < 0x10000
    · rw [if_pos g2]
      exact ⟨fun hr => absurd (h2 hr) (by omega), fun _ => show (3 : Nat) ≤ 3 by decide, show (2 : Nat) ≤ 3 by decide, show (3 : Nat) ≤ 4 by decide⟩
    · rw [if_neg g2]
      exact ⟨fun hr => absurd (h2 hr) (by omega), fun hr => absurd (h1 hr) (by omega), show (2 : Nat) ≤ 4 by decide, show (4 : Nat) ≤ 4 by decide⟩
/-- a text of two bytes or more that is not CR LF does not stand in CR LF -/
theorem index_hi (E : ByteArray) (h : 2 ≤ E.size) (hne : (([13, 10] : List UInt8) == E.toList) = false) : Lib.index [13, 10] E.data.toList = -1 :=
  Lib.long ⟨#[13, 10]⟩ E (by show 2 ≤ E.size; omega) (by
    apply Bool.eq_false_iff.2
    intro e
    rw [beq_iff_eq] at e
    rw [Bool.eq_false_iff] at hne
    exact hne (by rw [e, beq_iff_eq, Lib.toList_data]))
end Pl
namespace Mm
/-- the variable internal/bytealg.MaxLen holds some number, for good -/
def MaxI (w : World) : Prop := Stays (fun w => ∃ m, w.cell? ⟨6, 0, none⟩ = some (.int .i64 m)) w
theorem maxI_of {w : World} (h : ∃ m, w.cell? ⟨6, 0, none⟩ = some (.int .i64 m)) : MaxI w := fun _ hb => by
  obtain ⟨m, hm⟩ := h
  exact ⟨m, (hb.cell (p := ⟨6, 0, none⟩) (World.block_lt_of_cell? _ _ hm)).trans hm⟩
end Mm

set_option maxHeartbeats 8000000 in
theorem bindexAny_short (g o n c : Nat) (l : List UInt8) (w : World) (hn : n = l.length) (h1 : n ≠ 1) (h8 : n ≤ 8) (a : Option Addr) (hm : 0 < n → a = some ⟨g, o, none⟩ ∧ Mm.BytesAt w g o l) (hc : n ≤ c) (hU : Mm.U8 w) (hX : Mm.MaxI w) :
    Calls Tryd.prog 84 #[.slice a n c, .string ⟨#[13, 10]⟩] w fun e w' => (∃ k : Int, e = .returned (.int .i64 k) ∧ Pl.hitE l k) ∧ Below w.heap.size w w' := by
  have h8z : decide ((8 : Int) < (n : Int)) = false := decide_eq_false (by omega)
  have hn1 : ((n : Int) == 1) = false := beq_eq_false_iff_ne.2 (by omega)
  have HM := Pl.hid hm
  have HN := Pl.hid hn
  have HU := Pl.hid hU
  have HX := Pl.hid hX
  obtain ⟨m, hm0⟩ := HX.out.here
  have HMX := Pl.hid hm0
  clear hm hn hU hX hm0
  go_enter Tryd.func84, Tryd.ntmps84
  go_wp2_with (go_at_call 103; refine (bshould_walk _ _).mono ?_; rintro e w' ⟨rfl, rfl⟩; rw [h8z])
  go_loopw [12] (fun iv wr => ∃ i : Nat, iv = .int .i64 i ∧ i ≤ n ∧ Hid (Below w.heap.size w wr) ∧ Hid (Pl.noE l i)) (fun iv _ => n - (intOf iv).toNat)
  case atStart => exact ⟨0, rfl, Nat.zero_le _, Below.refl _ _, Pl.noE_zero l⟩
  case round =>
    obtain ⟨i, rfl, hi, HB, HNo⟩ := hrel
    rcases Nat.lt_or_ge i n with hlt | hge
    · obtain ⟨rfl, hm⟩ := HM.out (by omega)
      have HBY : Hid (∀ j, j < n → wr.cell? ⟨g, o + j, none⟩ = some (.int .u8 (Pl.at_ l j))) := fun j hj => (HB.out.cell (p := ⟨g, o + j, none⟩) (World.block_lt_of_cell? _ _ (hm j (by rw [← HN.out]; exact hj)))).trans (hm j (by rw [← HN.out]; exact hj))
      have hc0 := HBY.out i hlt
      clear hm
      obtain ⟨x, hx⟩ : ∃ x, l.getD i 0 = x := ⟨_, rfl⟩
      unfold Pl.at_ at hc0
      rw [hx] at hc0
      have HXX := Pl.hid hx
      clear hx
      by_cases ha : x.toNat < 128
      · rcases Pl.idx2 x with ⟨hx1, hx2⟩ | ⟨hx1, hx2⟩
        · obtain ⟨N, hN⟩ : ∃ N, N = Lib.indexByte [13, 10] x := ⟨_, rfl⟩
          rw [← hN] at hx2
          have HN2 := Pl.hid hN
          have HX1 := Pl.hid hx1
          clear hN hx1
          go_wp2_with fail
          (rw [run_callFunc_extern Tryd.func101 (by kernel_rfl) (by kernel_rfl) (by kernel_rfl) (e := Extern.BytealgIndexByte.indexByte) (by kernel_rfl), Lib.run_indexByteString]; simp only [Result.andThen]; rw [Oper.upon_value])
          rw [Lib.byte_back, ← HN2.out]
          go_wp2_with fail
          go_ret
          exact ⟨⟨_, rfl, .inr ⟨i, rfl, by rw [← HN.out]; exact hlt, HNo.out, by rw [HXX.out]; exact HX1.out⟩⟩, HB.out⟩
        · have HX1 := Pl.hid hx1
          have HX2 := Pl.hid hx2
          clear hx1 hx2
          have hlt1 : ¬ (0 : Int) ≤ -1 := by decide
          go_wp2_with fail
          (rw [run_callFunc_extern Tryd.func101 (by kernel_rfl) (by kernel_rfl) (by kernel_rfl) (e := Extern.BytealgIndexByte.indexByte) (by kernel_rfl), Lib.run_indexByteString]; simp only [Result.andThen]; rw [Oper.upon_value])
          rw [Lib.byte_back, HX2.out]
          go_wp2_with fail
          go_roundw
          case rel => exact ⟨i + 1, by go_num, hlt, HB.out, HNo.out.succ (by rw [HXX.out]; exact HX1.out)⟩
          case measure => simp [intOf]; omega
      · have hx256 : (x.toNat : Int) < 256 := by have := UInt8.toNat_lt x; omega
        have hn128 : ¬ ((x.toNat : Int) < 128) := by omega
        obtain ⟨s, hs⟩ : ∃ s, s = Pl.B (l.drop i) := ⟨_, rfl⟩
        have hsz : s.size = n - i := by rw [hs, Pl.B_size, List.length_drop, ← HN.out]
        have hget : ∀ j, j < n - i → s.get! j = l.getD (i + j) 0 := fun j hj => by
          rw [Pl.get_bang s j (by omega), hs, Pl.L_B, List.getD_eq_getElem?_getD, List.getElem?_drop, ← List.getD_eq_getElem?_getD]
        have hh : 128 ≤ (s.get! 0).toNat := by rw [hget 0 (by omega), Nat.add_zero, HXX.out]; omega
        have hg0 : s.get! 0 = s[0]'(by omega) := get_at s 0 (by omega)
        have hsp := Pl.dec_span s 0 (by omega) (by rw [← hg0]; exact hh)
        have hhi := decode_high s 0 (by omega) (by rw [← hg0]; exact hh)
        have hle := decode_le s 0
        have hdv := Pl.dec_val s (by omega) hh
        have hD := decodeRune_walk s g (o + i) (c - i) wr (HU.out.on HB.out) (fun j hj => by
          have := HBY.out (i + j) (by omega)
          rw [hget j (by omega), Nat.add_assoc]
          exact this)
        have hgo : Lib.decodeGo s = Utf8.decode s 0 := by unfold Lib.decodeGo; rw [if_neg (by omega)]
        rw [hgo, hsz] at hD
        obtain ⟨r, hr⟩ : ∃ r, r = (Utf8.decode s 0).1 := ⟨_, rfl⟩
        obtain ⟨d, hd⟩ : ∃ d, d = (Utf8.decode s 0).2 := ⟨_, rfl⟩
        rw [← hr, ← hd] at hD hdv hhi
        rw [← hd] at hsp
        rw [← hr] at hle
        have HNX : Hid (i + d ≤ n ∧ Pl.noE l (i + d)) := by
          refine ⟨by omega, fun j hj => ?_⟩
          rcases Nat.lt_or_ge j i with hji | hji
          · exact HNo.out j hji
          · have h1 := hsp.2 (j - i) (Nat.zero_le _) (by omega)
            rw [hget (j - i) (by omega), show i + (j - i) = j by omega] at h1
            exact Pl.hi_isEnd _ h1
        have hd1 := hhi.2
        have hr1 := hhi.1
        have HD := Pl.hid hD
        have HDV := Pl.hid hdv
        clear hD hdv hgo hr hd hs hsz hget hh hg0 hsp hhi
        have HHI : Hid (128 ≤ r) := hr1
        by_cases he : r = 65533
        · subst he
          clear hr1 hle
          go_wp2_with (go_at_call 106; refine HD.out.mono ?_; rintro e w2 ⟨rfl, hb2⟩; have HB2 := Pl.hid (HB.out.trans (hb2.mono HB.out.size)); clear hb2)
          go_loopg [15] 2 (fun g _ wx => ∃ k : Nat, k + g = 2 ∧ wx = w2.iter ⟨#[13, 10]⟩ k)
          case atStart => exact ⟨0, by omega, rfl⟩
          case round =>
            obtain ⟨k, hkg, rfl⟩ := hrel
            have hs2 : (⟨#[13, 10]⟩ : ByteArray).size = 2 := rfl
            cases gk with
            | zero =>
              obtain rfl : k = 2 := by omega
              have hnx := run_next_end (P := Tryd.prog) w2 ⟨#[13, 10]⟩ 2
              have hid := HNX.out.1
              go_wp2
              go_roundw
              case rel => exact ⟨i + d, by go_num, HNX.out.1, HB2.out.alloc HB2.out.size _, HNX.out.2⟩
              case measure => simp [intOf]; omega
            | succ g =>
              rcases (show k = 0 ∨ k = 1 by omega) with rfl | rfl
              · have hnx := fun ty => run_next_ascii (P := Tryd.prog) w2 ⟨#[13, 10]⟩ 0 ty (by decide) (by decide)
                go_wp2
                go_roundg g
                case measure => omega
                case rel => exact ⟨_, by omega, rfl⟩
              · have hnx := fun ty => run_next_ascii (P := Tryd.prog) w2 ⟨#[13, 10]⟩ 1 ty (by decide) (by decide)
                go_wp2
                go_roundg g
                case measure => omega
                case rel => exact ⟨_, by omega, rfl⟩
        · have hne : ((r : Int) != 65533) = true := bne_iff_ne.2 (by omega)
          obtain ⟨E, hE⟩ : ∃ E, E = Utf8.encode (r : Int) := ⟨_, rfl⟩
          obtain ⟨l1, l2, l3, l4⟩ := Pl.enc_len (r : Int) (by omega)
          rw [← hE] at l1 l2 l3 l4
          obtain ⟨ea, eb, et, hEl, heb, _⟩ := Pl.enc_hi (r : Int) (by omega)
          rw [← hE] at hEl
          have HE := Pl.hid hE
          clear hE
          have heq : (([13, 10] : List UInt8) == E.toList) = false := by
            apply Bool.eq_false_iff.2
            intro e
            rw [beq_iff_eq, Lib.toList_data, hEl] at e
            simp only [List.cons.injEq] at e
            obtain ⟨_, e2, e3⟩ := e
            have := heb e3.symm
            rw [← e2] at this
            exact absurd this (by decide)
          have HIX := Pl.hid (Pl.index_hi E l3 heq)
          clear hEl heb
          rcases HDV.out he with ⟨rfl, hr2⟩ | hd34
          · clear l1 l2 l3 l4 hle
            go_wp2_with (first | (go_at_call 106; refine HD.out.mono ?_; rintro e w2 ⟨rfl, hb2⟩; have HB2 := Pl.hid (HB.out.trans (hb2.mono HB.out.size)); clear hb2) | (refine Mm.wp_runestr _ rfl _ (by rfl) r E HE.out (by rfl) ?_))
            go_roundw
            case rel => have hid := HNX.out.1; exact ⟨i + 2, by go_num, HNX.out.1, HB2.out, HNX.out.2⟩
            case measure => have hid := HNX.out.1; simp [intOf]; omega
          · have hE3 : (E.size : Int) ≤ d ∧ 3 ≤ d ∧ d ≤ 4 := by
              rcases hd34 with ⟨rfl, h⟩ | rfl
              · exact ⟨by have := l2 (by omega); omega, by omega, by omega⟩
              · exact ⟨by omega, by omega, by omega⟩
            have hd2 : ((2 : Int) == (d : Int)) = false := beq_eq_false_iff_ne.2 (by omega)
            have HES : Hid (2 ≤ E.size ∧ (E.size : Int) ≤ d) := ⟨l3, hE3.1⟩
            have HD34 := Pl.hid hd34
            clear l1 l2 l3 l4 hE3 hd34
            by_cases hmd : (d : Int) ≤ m
            · clear hle heq
              go_wp2_with (first | (go_at_call 106; refine HD.out.mono ?_; rintro e w2 ⟨rfl, hb2⟩; have HB2 := Pl.hid (HB.out.trans (hb2.mono HB.out.size)); clear hb2; have hm2 := (HB2.out.cell (p := ⟨6, 0, none⟩) (World.block_lt_of_cell? _ _ HMX.out)).trans HMX.out) | (refine Mm.wp_runestr _ rfl _ (by rfl) r E HE.out (by rfl) ?_))
              rw [run_callFunc_extern Tryd.func107 (by kernel_rfl) (by kernel_rfl) (by kernel_rfl) (e := Extern.BytealgIndex.index) (by kernel_rfl), Lib.run_indexString ⟨#[13, 10]⟩ E _ 6 m (by kernel_rfl) hm2 HES.out.1 (Int.le_trans HES.out.2 hmd) (by decide)]
              simp only [Result.andThen]
              rw [Oper.upon_value]
              rw [HIX.out]
              clear hm2
              have hlt1 : ¬ (0 : Int) ≤ -1 := by decide
              have hid := HNX.out.1
              go_wp2_with fail
              go_roundw
              case rel => exact ⟨i + d, by go_num, HNX.out.1, HB2.out, HNX.out.2⟩
              case measure => simp [intOf]; omega
            · clear hle heq
              have hr13 : ((r : Int) == ((((⟨#[13, 10]⟩ : ByteArray)[0]'(by decide)).toNat : Nat) : Int)) = false := beq_eq_false_iff_ne.2 (by show ¬ (r : Int) = 13; omega)
              have hr10 : ((r : Int) == ((((⟨#[13, 10]⟩ : ByteArray)[1]'(by decide)).toNat : Nat) : Int)) = false := beq_eq_false_iff_ne.2 (by show ¬ (r : Int) = 10; omega)
              go_wp2_with (go_at_call 106; refine HD.out.mono ?_; rintro e w2 ⟨rfl, hb2⟩; have HB2 := Pl.hid (HB.out.trans (hb2.mono HB.out.size)); clear hb2; have hm2 := (HB2.out.cell (p := ⟨6, 0, none⟩) (World.block_lt_of_cell? _ _ HMX.out)).trans HMX.out)
              clear hm2
              go_loopg [15] 2 (fun g _ wx => ∃ k : Nat, k + g = 2 ∧ wx = w2.iter ⟨#[13, 10]⟩ k)
              case atStart => exact ⟨0, by omega, rfl⟩
              case round =>
                obtain ⟨k, hkg, rfl⟩ := hrel
                have hs2 : (⟨#[13, 10]⟩ : ByteArray).size = 2 := rfl
                cases gk with
                | zero =>
                  obtain rfl : k = 2 := by omega
                  have hnx := run_next_end (P := Tryd.prog) w2 ⟨#[13, 10]⟩ 2
                  have hid := HNX.out.1
                  go_wp2
                  go_roundw
                  case rel => exact ⟨i + d, by go_num, HNX.out.1, HB2.out.alloc HB2.out.size _, HNX.out.2⟩
                  case measure => simp [intOf]; omega
                | succ g =>
                  rcases (show k = 0 ∨ k = 1 by omega) with rfl | rfl
                  · have hnx := fun ty => run_next_ascii (P := Tryd.prog) w2 ⟨#[13, 10]⟩ 0 ty (by decide) (by decide)
                    go_wp2
                    go_roundg g
                    case measure => omega
                    case rel => exact ⟨_, by omega, rfl⟩
                  · have hnx := fun ty => run_next_ascii (P := Tryd.prog) w2 ⟨#[13, 10]⟩ 1 ty (by decide) (by decide)
                    go_wp2
                    go_roundg g
                    case measure => omega
                    case rel => exact ⟨_, by omega, rfl⟩
    · obtain rfl : i = n := by omega
      go_wp2_with fail
      go_ret
      exact ⟨⟨_, rfl, .inl ⟨Pl.noE_all HNo.out (by rw [← HN.out]; exact Nat.le_refl _), rfl⟩⟩, HB.out⟩
end Go.Proofs.YtakldjdohgmeiaaDoor

namespace Go.Proofs.YtakldjdohgmeiaaDoor
open Go.RowKit
set_option maxRecDepth 20000

set_option maxHeartbeats 8000000 in
theorem bindexAny_one (g o c : Nat) (l : List UInt8) (w : World) (hl : l.length = 1) (hm : Mm.BytesAt w g o l) (hc : 1 ≤ c) :
    Calls Tryd.prog 84 #[.slice (some ⟨g, o, none⟩) 1 c, .string ⟨#[13, 10]⟩] w fun e w' => (∃ k : Int, e = .returned (.int .i64 k) ∧ Pl.hitE l k) ∧ Below w.heap.size w w' := by
  obtain ⟨x, rfl⟩ : ∃ x, l = [x] := by
    match l, hl with
    | [x], _ => exact ⟨x, rfl⟩
  have hc0 : w.cell? ⟨g, o, none⟩ = some (.int .u8 x.toNat) := hm 0 (by simp)
  have hx256 : (x.toNat : Int) < 256 := by have := UInt8.toNat_lt x; omega
  clear hm hl
  go_enter Tryd.func84, Tryd.ntmps84
  by_cases ha : x.toNat < 128
  · have hn128 : ¬ ((128 : Int) ≤ x.toNat) := by omega
    rcases Pl.idx2 x with ⟨hx1, hx2⟩ | ⟨hx1, hx2⟩
    · obtain ⟨N, hN⟩ : ∃ N, N = Lib.indexByte [13, 10] x := ⟨_, rfl⟩
      rw [← hN] at hx2
      have HN2 := Pl.hid hN
      have HX1 := Pl.hid hx1
      clear hN hx1
      go_wp2_with fail
      (rw [run_callFunc_extern Tryd.func101 (by kernel_rfl) (by kernel_rfl) (by kernel_rfl) (e := Extern.BytealgIndexByte.indexByte) (by kernel_rfl), Lib.run_indexByteString]; simp only [Result.andThen]; rw [Oper.upon_value])
      rw [Lib.byte_back, ← HN2.out]
      go_wp2_with fail
      go_ret
      exact ⟨⟨_, rfl, .inr ⟨0, rfl, by simp, Pl.noE_zero _, HX1.out⟩⟩, Below.refl _ _⟩
    · have HX1 := Pl.hid hx1
      have HX2 := Pl.hid hx2
      clear hx1 hx2
      have hlt1 : ¬ (0 : Int) ≤ -1 := by decide
      go_wp2_with fail
      (rw [run_callFunc_extern Tryd.func101 (by kernel_rfl) (by kernel_rfl) (by kernel_rfl) (e := Extern.BytealgIndexByte.indexByte) (by kernel_rfl), Lib.run_indexByteString]; simp only [Result.andThen]; rw [Oper.upon_value])
      rw [Lib.byte_back, HX2.out]
      go_wp2_with fail
      go_ret
      exact ⟨⟨_, rfl, .inl ⟨Pl.noE_all (Pl.noE_zero _ |>.succ HX1.out) (by simp), rfl⟩⟩, Below.refl _ _⟩
  · have hn128 : (128 : Int) ≤ x.toNat := by omega
    have HX1 : Hid (Pl.isEnd x = false) := Pl.hi_isEnd x (by omega)
    go_wp2_with fail
    go_loopg [5] 2 (fun g _ wx => ∃ k : Nat, k + g = 2 ∧ wx = w.iter ⟨#[13, 10]⟩ k)
    case atStart => exact ⟨0, by omega, rfl⟩
    case round =>
      obtain ⟨k, hkg, rfl⟩ := hrel
      have hs2 : (⟨#[13, 10]⟩ : ByteArray).size = 2 := rfl
      cases gk with
      | zero =>
        obtain rfl : k = 2 := by omega
        have hnx := run_next_end (P := Tryd.prog) w ⟨#[13, 10]⟩ 2
        go_wp2
        go_ret
        exact ⟨⟨_, rfl, .inl ⟨Pl.noE_all (Pl.noE_zero _ |>.succ HX1.out) (by simp), rfl⟩⟩, (Below.refl _ _).alloc (Nat.le_refl _) _⟩
      | succ g =>
        rcases (show k = 0 ∨ k = 1 by omega) with rfl | rfl
        · have hnx := fun ty => run_next_ascii (P := Tryd.prog) w ⟨#[13, 10]⟩ 0 ty (by decide) (by decide)
          go_wp2
          go_roundg g
          case measure => omega
          case rel => exact ⟨_, by omega, rfl⟩
        · have hnx := fun ty => run_next_ascii (P := Tryd.prog) w ⟨#[13, 10]⟩ 1 ty (by decide) (by decide)
          go_wp2
          go_roundg g
          case measure => omega
          case rel => exact ⟨_, by omega, rfl⟩

/-- bytes.IndexAny(b, "\r\n") -/
theorem bindexAny_walk (v : Value) (l : List UInt8) (w : World) (hv : Mm.Bs w v l) (hl : l.length ≤ 9223372036854775807) (hU : Mm.U8 w) (hX : Mm.MaxI w) :
    Calls Tryd.prog 84 #[v, .string ⟨#[13, 10]⟩] w fun e w' => (∃ k : Int, e = .returned (.int .i64 k) ∧ Pl.hitE l k) ∧ Below w.heap.size w w' := by
  obtain ⟨a, c, rfl, hc, _, hm⟩ := hv
  rcases Nat.eq_zero_or_pos l.length with h0 | h0
  · exact bindexAny_short 0 0 l.length c l w rfl (by omega) (by omega) a (fun h => by omega) hc hU hX
  · obtain ⟨g, o, rfl, hb⟩ := hm h0
    by_cases h1 : l.length = 1
    · rw [h1] at hc ⊢
      exact bindexAny_one g o c l w h1 hb hc
    · rcases Nat.lt_or_ge 8 l.length with h8 | h8
      · exact bindexAny_long g o l.length c l w rfl h8 hb hl (World.block_lt_of_cell? _ _ (hb 0 h0))
      · exact bindexAny_short g o l.length c l w rfl h1 h8 _ (fun _ => ⟨rfl, hb⟩) hc hU hX
end Go.Proofs.YtakldjdohgmeiaaDoor
