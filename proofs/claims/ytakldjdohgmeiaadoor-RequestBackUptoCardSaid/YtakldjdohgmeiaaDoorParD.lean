/- A parser's count and length: Go's count, length. Conditions stand in each law. -/
import Derived.Test.YtakldjdohgmeiaaDoorParC
namespace Go.Proofs.YtakldjdohgmeiaaDoor
open Go.RowKit
set_option maxRecDepth 20000

namespace Pl
theorem numM_ok {l : List UInt8} {lo hi : Int} {q : Int × Nat} {e : Bool} (h : numM l lo hi = (some q, e)) : e = false := by
  unfold numM at h
  split at h
  · cases h
  · split at h
    · injection h with _ h; exact h.symm
    · cases h
theorem numM_in {l : List UInt8} {lo hi n : Int} {k : Nat} {e : Bool} (h : numM l lo hi = (some (n, k), e)) : lo ≤ n ∧ n ≤ hi ∧ k ≤ 33 ∧ 0 < k ∧ k ≤ l.length := by
  unfold numM at h
  cases ht : lineM l 32 with
  | none => rw [ht] at h; cases h
  | some t =>
    rw [ht] at h
    simp only at h
    split at h
    · rename_i hk
      injection h with h _
      injection h with h
      injection h with h1 h2
      have := lineM_some ht
      unfold numOk at hk
      simp only [Bool.and_eq_true, decide_eq_true_eq] at hk
      subst h1
      omega
    · cases h
theorem Pst.same {st : Pst} (h : st.err = false) : { st with err := false } = st := by cases st; simp at h; simp [h]
end Pl

namespace Mm
open Pl
theorem cellOf {w : World} {p i : Nat} {cs : Array Value} {T : TypeId} {z : Nat × Nat} {v : Value} (h : w.heap[p]? = some (.cells cs T z)) (hi : cs[i]? = some v) : w.cell? ⟨p, i, none⟩ = some v := by
  unfold World.cell?
  rw [h]
  exact hi
theorem belowG {W w w' : World} {p : Nat} (h : Below W.heap.size W w) (hg : w.grownBy w' (some p)) (hp : W.heap.size ≤ p) : Below W.heap.size W w' :=
  h.grown hg h.size (fun k hk => by injection hk with hk; omega)
/-- stores to the parser's own block, the words given up -/
theorem PV.clear {w w' : World} {p : Nat} {bv wv rv ev bv' ev' : Value} {st st' : Pst} {rows : List Value} (h : PV w p bv st wv rv ev rows) (hg : w.grownBy w' (some p)) (hp : w'.heap[p]? = some (.cells (cellsP bv' (.slice none 0 0) rv ev' st') 90 (0, 0)))
    (h1 : st'.words = []) (h2 : st'.ready = st.ready) (h3 : ErrV st'.err ev') : PV w' p bv' st' (.slice none 0 0) rv ev' rows := by
  have hne : ∀ g, p + 1 ≤ g → ¬ some g = some p := fun g hg e => by injection e with e; omega
  refine ⟨hp, ?_, ownsRow_keep h.2.2.1 (fun g hg' => hg.block g (h.2.2.1.lt g hg').2 (hne g (h.2.2.1.lt g hg').1)), ?_, fun g hg => (by cases hg), fun v hv => ⟨fun g _ hg => (by cases hg), (h.2.2.2.2.2.1 v hv).2⟩, h3⟩
  · rw [h1]
    exact ownS_nil _ _
  · rw [h2]
    exact h.2.2.2.1.keep (fun v hv g hg' => by
      obtain ⟨l, ho⟩ := h.2.2.2.1.row hv
      exact hg.block g (ho.lt g hg').2 (hne g (ho.lt g hg').1))
theorem chgOwn {w w' : World} {p : Nat} {wv rv wv' : Value} {rows : List Value} (h : w.grownBy w' (some p)) (hw : ∀ g, wv'.ownBlock = some g → foot p wv rv rows g) : Chg w (foot p wv rv rows) w' (foot p wv' rv rows) :=
  Chg.grown h (fun g e => by injection e with e; exact .inl e.symm) (fun g hg => by
    rcases hg with h1 | h1 | h1
    · exact .inl (.inl h1)
    · exact .inl (hw g h1)
    · exact .inl (.inr (.inr h1)))
end Mm

set_option maxHeartbeats 4000000 in
theorem count_walk (p g o c : Nat) (l : List UInt8) (bv : Value) (st : Pl.Pst) (F : Nat → Prop) (W w : World) (hR : Mm.RErr W) (hE : Mm.Errs W) (hW : Below W.heap.size W w) (hl : l.length ≤ 140737488351232) (hc : l.length ≤ c) (h0 : 0 < l.length) (h : Mm.BytesAt w g o l)
    (hp : Mm.PQ w p bv st F) (he : st.err = false) :
    Calls Tryd.prog 73 #[.pointer (some ⟨p, 0, none⟩), .slice (some ⟨g, o, none⟩) l.length c] w fun e w' => e = .returned (.int .i64 ((Pl.countM st l).1 : Int)) ∧ ∃ F', Mm.PQ w' p bv (Pl.countM st l).2 F' ∧ Mm.Chg w F w' F' := by
  obtain ⟨T, xv, hx⟩ := (hR.on hW).here 1 (by simp)
  have HC := Pl.hid (number_walk p g o c (-1) 1024 l bv st F T xv W w hR hE hW hl hc h0 h hp he)
  obtain ⟨wv, rv, ev, rows, hv, hF⟩ := hp
  have He := Pl.hid he
  clear hR hE hW h hv he hl hc h0
  unfold Pl.countM
  cases hq : Pl.numM l (-1) 1024 with
  | mk q e =>
  rw [hq] at HC
  cases q with
  | none =>
    simp only
    go_enter Tryd.func73, Tryd.ntmps73
    go_wp2_with fail
    refine HC.out.mono ?_
    rintro e w1 ⟨rfl, hp1, hg1⟩
    have HP1 := Pl.hid hp1
    have HG1 := Pl.hid hg1
    clear hp1 hg1 hx
    simp only [Pl.nuE]
    go_wp2_with fail
    go_ret
    exact ⟨rfl, F, HP1.out, Mm.Chg.grown HG1.out (fun g e => by rw [hF]; injection e with e; exact .inl e.symm) (fun _ h => .inl h)⟩
  | some nk =>
    obtain ⟨n, k⟩ := nk
    obtain rfl : e = false := Pl.numM_ok hq
    rw [Pl.Pst.same He.out] at HC
    clear hq
    simp only
    rcases Int.lt_or_le 0 n with hn | hn
    · rw [if_pos hn]
      obtain ⟨m, rfl⟩ := Int.eq_ofNat_of_zero_le (Int.le_of_lt hn)
      go_enter Tryd.func73, Tryd.ntmps73
      go_wp2_with fail
      refine HC.out.mono ?_
      rintro e w1 ⟨rfl, hp1, hg1⟩
      obtain ⟨wv1, rv1, ev1, rows1, hv1, hF1⟩ := hp1
      have HV1 := Pl.hid hv1
      have HG1 := Pl.hid hg1
      have hpl := hv1.lt
      clear hv1 hg1 hx
      simp only [Pl.nuE]
      go_wp2_with (first
        | (refine Mm.wp_storeF _ rfl 3 _ _ (by rfl) (by kernel_rfl) p 3 90 (Mm.cellsP bv wv1 rv1 ev1 _) _ HV1.out.1 (by rfl) (by rfl) (by simp [Mm.cellsP]) rfl rfl ?_; intro w3 h3 hz3 hg3; have H3 := Pl.hid h3; have HG3 := Pl.hid hg3; clear h3 hz3 hg3)
        | (refine Mm.wp_storeF _ rfl 3 _ _ (by rfl) (by kernel_rfl) p 4 90 _ _ H3.out (by rfl) (by rfl) (by simp [Mm.cellsP]) rfl rfl ?_; intro w4 h4 hz4 hg4; have H4 := Pl.hid h4; have HG4 := Pl.hid hg4; clear h4 hz4 hg4)
        | (refine Mm.wp_storeF _ rfl 22 _ _ (by rfl) (by kernel_rfl) p 2 90 _ _ H4.out (by rfl) (by rfl) (by simp [Mm.cellsP]) rfl rfl ?_; intro w5 h5 hz5 hg5; have H5 := Pl.hid h5; have HG5 := Pl.hid hg5; clear h5 hz5 hg5)
        | (refine Mm.wp_storeF _ rfl 3 _ _ (by rfl) (by kernel_rfl) p 1 90 _ _ H5.out (by rfl) (by rfl) (by simp [Mm.cellsP]) rfl rfl ?_; intro w6 h6 hz6 hg6; have H6 := Pl.hid h6; have HG6 := Pl.hid hg6; clear h6 hz6 hg6))
      go_ret
      have hgg := Mm.gTrans HG3.out (Mm.gTrans HG4.out (Mm.gTrans HG5.out HG6.out))
      refine ⟨rfl, Mm.foot p (.slice none 0 0) rv1 rows1, ⟨_, _, ev1, rows1, HV1.out.clear hgg H6.out rfl rfl ?_, rfl⟩, ?_⟩
      · exact HV1.out.2.2.2.2.2.2
      · refine Mm.Chg.trans (Mm.Chg.grown HG1.out (F' := F) (fun g e => by rw [hF]; injection e with e; exact .inl e.symm) (fun _ h => .inl h)) ?_
        rw [hF1]
        exact Mm.chgOwn hgg (fun g hg => by cases hg)
    · rw [if_neg (by omega)]
      go_enter Tryd.func73, Tryd.ntmps73
      go_wp2_with fail
      refine HC.out.mono ?_
      rintro e w1 ⟨rfl, hp1, hg1⟩
      have HP1 := Pl.hid hp1
      have HG1 := Pl.hid hg1
      clear hp1 hg1 hx
      simp only [Pl.nuE]
      go_wp2_with fail
      go_ret
      exact ⟨rfl, F, HP1.out, Mm.Chg.grown HG1.out (fun g e => by rw [hF]; injection e with e; exact .inl e.symm) (fun _ h => .inl h)⟩

set_option maxHeartbeats 4000000 in
theorem length_walk (p g o c : Nat) (l : List UInt8) (bv : Value) (st : Pl.Pst) (F : Nat → Prop) (W w : World) (hpW : W.heap.size ≤ p) (hR : Mm.RErr W) (hE : Mm.Errs W) (hW : Below W.heap.size W w) (hl : l.length ≤ 140737488351232) (hc : l.length ≤ c) (h0 : 0 < l.length) (h : Mm.BytesAt w g o l)
    (hp : Mm.PQ w p bv st F) (he : st.err = false) (hs : st.size ≤ 4194304) (hu : st.used ≤ 4503599627370496) :
    Calls Tryd.prog 72 #[.pointer (some ⟨p, 0, none⟩), .slice (some ⟨g, o, none⟩) l.length c] w fun e w' => e = .returned (.int .i64 ((Pl.lengthM st l).1 : Int)) ∧ ∃ F', Mm.PQ w' p bv (Pl.lengthM st l).2 F' ∧ Mm.Chg w F w' F' := by
  obtain ⟨T3, x3, hx3⟩ := (hR.on hW).here 4 (by simp)
  obtain ⟨T, xv, hx⟩ := (hR.on hW).here 5 (by simp)
  have HC := Pl.hid (number_walk p g o c 0 1048576 l bv st F T xv W w hR hE hW hl hc h0 h hp he)
  have HR := Pl.hid hR
  have HW := Pl.hid hW
  have HPW := Pl.hid hpW
  have b0 := h 0 h0
  rw [Nat.add_zero] at b0
  obtain ⟨wv, rv, ev, rows, hv, hF⟩ := hp
  have He := Pl.hid he
  have HV := Pl.hid hv
  have hpl := hv.lt
  clear hR hE hW h hv he hl hc hpW
  unfold Pl.lengthM
  rcases Decidable.em (l.head? = some 36) with h36 | h36
  · rw [if_neg (by simpa using h36)]
    have hb : (Pl.at_ l 0 == 36) = true := by
      cases l with
      | nil => exact absurd h0 (by simp)
      | cons c0 l =>
        injection h36 with h36
        subst h36
        rfl
    generalize Pl.at_ l 0 = a0 at b0 hb
    clear h36
    cases hq : Pl.numM l 0 1048576 with
    | mk q e =>
    rw [hq] at HC
    cases q with
    | none =>
      simp only
      go_enter Tryd.func72, Tryd.ntmps72
      go_wp2_with fail
      refine HC.out.mono ?_
      rintro e w1 ⟨rfl, hp1, hg1⟩
      have HP1 := Pl.hid hp1
      have HG1 := Pl.hid hg1
      clear hp1 hg1 hx hx3 b0 hb
      simp only [Pl.nuE]
      go_wp2_with fail
      go_ret
      exact ⟨rfl, F, HP1.out, Mm.Chg.grown HG1.out (fun g e => by rw [hF]; injection e with e; exact .inl e.symm) (fun _ h => .inl h)⟩
    | some nk =>
      obtain ⟨n, k⟩ := nk
      obtain rfl : e = false := Pl.numM_ok hq
      obtain ⟨hn0, hn1, hk, _, _⟩ := Pl.numM_in hq
      rw [Pl.Pst.same He.out] at HC
      clear hq
      simp only
      obtain ⟨m, rfl⟩ := Int.eq_ofNat_of_zero_le hn0
      have htn : ((m : Int)).toNat = m := rfl
      rw [htn]
      clear htn
      rcases Nat.lt_or_ge 4194304 (st.size + m) with hbig | hbig
      · rw [if_pos hbig]
        go_enter Tryd.func72, Tryd.ntmps72
        go_wp2_with fail
        refine HC.out.mono ?_
        rintro e w1 ⟨rfl, ⟨wv1, rv1, ev1, rows1, hv1, hF1⟩, hg1⟩
        have HV1 := Pl.hid hv1
        have HG1 := Pl.hid hg1
        have hpl := hv1.lt
        have hc4 := hv1.cell 4 (.int .i64 (st.size : Int)) rfl
        have HW1 := Pl.hid (Mm.belowG HW.out hg1 HPW.out)
        clear hv1 hg1 hx b0 hb hx3
        simp only [Pl.nuE]
        go_wp2_with (first
          | (refine Mm.wp_storeF _ rfl 3 _ _ (by rfl) (by kernel_rfl) p 4 90 (Mm.cellsP bv wv1 rv1 ev1 st) _ HV1.out.1 (by rfl) (by rfl) (by simp [Mm.cellsP]) rfl rfl ?_; intro w3 h3 hz3 hg3; have H3 := Pl.hid h3; have HG3 := Pl.hid hg3; clear h3 hz3 hg3; clear hc4; have hc4 := Mm.cellOf (i := 4) (v := .int .i64 ((st.size : Int) + (m : Int))) H3.out rfl; obtain ⟨T2, x2, hx2⟩ := (HR.out.on (Mm.belowG HW1.out HG3.out HPW.out)).here 0 (by simp))
          | (refine Mm.wp_storeF _ rfl 53 _ _ (by rfl) (by kernel_rfl) p 7 90 _ _ H3.out (by rfl) (by rfl) (by simp [Mm.cellsP]) rfl rfl ?_; intro w4 h4 hz4 hg4; have H4 := Pl.hid h4; have HG4 := Pl.hid hg4; clear h4 hz4 hg4))
        go_ret
        have hgg := Mm.gTrans HG3.out HG4.out
        have hcf : Mm.Chg w F w1 F := Mm.Chg.grown HG1.out (fun g e => by rw [hF]; injection e with e; exact .inl e.symm) (fun _ h => .inl h)
        refine ⟨rfl, F, ⟨wv1, rv1, .iface T2 x2, rows1, HV1.out.store hgg ?_ rfl rfl (.inl ⟨rfl, _, _, rfl⟩), hF1⟩, hcf.trans (Mm.Chg.grown hgg (fun g e => by rw [hF]; injection e with e; exact .inl e.symm) (fun _ h => .inl h))⟩
        exact H4.out
      · rw [if_neg (by omega)]
        go_enter Tryd.func72, Tryd.ntmps72
        go_wp2_with fail
        refine HC.out.mono ?_
        rintro e w1 ⟨rfl, ⟨wv1, rv1, ev1, rows1, hv1, hF1⟩, hg1⟩
        have HV1 := Pl.hid hv1
        have HG1 := Pl.hid hg1
        have hpl := hv1.lt
        have hc4 := hv1.cell 4 (.int .i64 (st.size : Int)) rfl
        clear hv1 hg1 hx b0 hb hx3
        simp only [Pl.nuE]
        go_wp2_with (first
          | (refine Mm.wp_storeF _ rfl 3 _ _ (by rfl) (by kernel_rfl) p 4 90 (Mm.cellsP bv wv1 rv1 ev1 st) _ HV1.out.1 (by rfl) (by rfl) (by simp [Mm.cellsP]) rfl rfl ?_; intro w3 h3 hz3 hg3; have H3 := Pl.hid h3; have HG3 := Pl.hid hg3; clear h3 hz3 hg3; clear hc4; have hc4 := Mm.cellOf (i := 4) (v := .int .i64 ((st.size : Int) + (m : Int))) H3.out rfl)
          | (refine Mm.wp_storeF _ rfl 3 _ _ (by rfl) (by kernel_rfl) p 5 90 _ _ H3.out (by rfl) (by rfl) (by simp [Mm.cellsP]) rfl rfl ?_; intro w4 h4 hz4 hg4; have H4 := Pl.hid h4; have HG4 := Pl.hid hg4; clear h4 hz4 hg4; clear hc4; have hc1 := Mm.cellOf (i := 1) (v := .int .i64 (st.used : Int)) H4.out rfl)
          | (refine Mm.wp_storeF _ rfl 3 _ _ (by rfl) (by kernel_rfl) p 1 90 _ _ H4.out (by rfl) (by rfl) (by simp [Mm.cellsP]) rfl rfl ?_; intro w5 h5 hz5 hg5; have H5 := Pl.hid h5; have HG5 := Pl.hid hg5; clear h5 hz5 hg5))
        go_ret
        have hgg := Mm.gTrans HG3.out (Mm.gTrans HG4.out HG5.out)
        have hcf : Mm.Chg w F w1 F := Mm.Chg.grown HG1.out (fun g e => by rw [hF]; injection e with e; exact .inl e.symm) (fun _ h => .inl h)
        refine ⟨rfl, F, ⟨wv1, rv1, ev1, rows1, HV1.out.store hgg ?_ rfl rfl HV1.out.2.2.2.2.2.2, hF1⟩, hcf.trans (Mm.Chg.grown hgg (fun g e => by rw [hF]; injection e with e; exact .inl e.symm) (fun _ h => .inl h))⟩
        exact H5.out
  · rw [if_pos h36]
    have hb : (Pl.at_ l 0 == 36) = false := by
      refine beq_eq_false_iff_ne.2 fun e => h36 ?_
      cases l with
      | nil => exact absurd h0 (by simp)
      | cons c0 l => exact congrArg some (UInt8.toNat_inj.1 (by have : ((c0.toNat : Nat) : Int) = 36 := e; show c0.toNat = 36; omega))
    generalize Pl.at_ l 0 = a0 at b0 hb
    clear h36 hx
    go_enter Tryd.func72, Tryd.ntmps72
    go_wp2_with (first | (refine Mm.wp_storeF _ rfl 53 _ _ (by rfl) (by kernel_rfl) p 7 90 (Mm.cellsP bv wv rv ev st) (.iface T3 x3) HV.out.1 (by rfl) (by rfl) (by simp [Mm.cellsP]) rfl rfl ?_; intro w3 h3 hz3 hg3; clear hz3))
    go_ret
    refine ⟨rfl, F, ⟨wv, rv, .iface T3 x3, rows, HV.out.store hg3 h3 rfl rfl (.inl ⟨rfl, _, _, rfl⟩), hF⟩, Mm.Chg.grown hg3 (fun g e => by rw [hF]; injection e with e; exact .inl e.symm) (fun _ h => .inl h)⟩
end Go.Proofs.YtakldjdohgmeiaaDoor
