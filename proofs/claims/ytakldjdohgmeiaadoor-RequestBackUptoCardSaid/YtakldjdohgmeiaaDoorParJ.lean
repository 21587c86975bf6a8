/- A parser that is asked: Go's New, Next, Err, Held; rows of texts that are the same. Conditions stand in each law. -/
import Derived.Test.YtakldjdohgmeiaaDoorParI
namespace Go.Proofs.YtakldjdohgmeiaaDoor
open Go.RowKit
set_option maxRecDepth 20000

namespace Mm
open Pl
/-- a row of texts that may be read -/
def RowT (w : World) (v : Value) (l : List (List UInt8)) : Prop := ∃ a c, v = .slice a l.length c ∧ l.length ≤ c ∧ (0 < l.length → ∃ g o, a = some ⟨g, o, none⟩ ∧ ∀ i s, l[i]? = some s → w.cell? ⟨g, o + i, none⟩ = some (.string (B s)))
theorem OwnS.rowT {w : World} {b : Nat} {v : Value} {l : List (List UInt8)} (h : OwnS w b v l) : RowT w v l := by
  obtain ⟨a, c, rfl, h0 | ⟨g, rfl, _, hg, hle⟩⟩ := h.val
  · exact ⟨_, _, rfl, by omega, fun h => by omega⟩
  · refine ⟨_, _, rfl, hle, fun _ => ⟨g, 0, rfl, fun i s hs => ?_⟩⟩
    have := h.cells (g := g) rfl i (.string (B s)) (by simp [strsV, hs])
    have e : (⟨g, 0, none⟩ : Addr).add i = ⟨g, i, none⟩ := by unfold Addr.add; split <;> simp_all
    rw [e] at this
    rw [Nat.zero_add]
    exact this
theorem RowT.below {w w' : World} {v : Value} {l : List (List UInt8)} (h : RowT w v l) (hb : Below w.heap.size w w') : RowT w' v l := by
  obtain ⟨a, c, h1, h2, h3⟩ := h
  refine ⟨a, c, h1, h2, fun hp => ?_⟩
  obtain ⟨g, o, e, hc⟩ := h3 hp
  exact ⟨g, o, e, fun i s hs => (hb.cell (p := ⟨g, o + i, none⟩) (World.block_lt_of_cell? _ _ (hc i s hs))).trans (hc i s hs)⟩
/-- a parser that is only asked: what is ready and was not told yet, and how many bytes are held -/
def PN (w : World) (p : Nat) (rest : List (List (List UInt8))) (st : Pst) (nb : Nat) : Prop :=
  ∃ wv ev ba bc a c, w.heap[p]? = some (.cells (cellsP (.slice ba nb bc) wv (.slice a rest.length c) ev st) 90 (0, 0)) ∧ rest.length ≤ c ∧ ErrV st.err ev ∧
    (0 < rest.length → ∃ g o, a = some ⟨g, o, none⟩ ∧ g ≠ p ∧ ∀ i l, rest[i]? = some l → ∃ v, w.cell? ⟨g, o + i, none⟩ = some v ∧ OwnS w (p + 1) v l)
theorem PB.asked {w : World} {p : Nat} {buf : List UInt8} {st : Pst} {G : Nat → Prop} (h : PB w p buf st G) : PN w p st.ready st buf.length := by
  obtain ⟨bv, F, ⟨wv, rv, ev, rows, hv, _⟩, ho, _, _⟩ := h
  obtain ⟨ba, bc, rfl, _⟩ := ho.val
  have hlen := hv.2.2.2.1.1
  rcases hv.2.2.1.2 with ⟨e, h0⟩ | ⟨g, cap, cur, e, hg, hh, hle, _⟩
  · have hz : st.ready.length = 0 := by omega
    refine ⟨wv, ev, ba, bc, none, 0, ?_, by omega, hv.2.2.2.2.2.2, fun h => by omega⟩
    rw [hz, ← e]
    exact hv.1
  · refine ⟨wv, ev, ba, bc, some ⟨g, 0, none⟩, cap, ?_, by omega, hv.2.2.2.2.2.2, fun hp => ⟨g, 0, rfl, by omega, fun i l hl => ?_⟩⟩
    · rw [← hlen, ← e]
      exact hv.1
    · obtain ⟨v, e1, e2⟩ := hv.2.2.2.1.2 i l hl
      refine ⟨v, ?_, e2⟩
      have := hv.2.2.1.cells (g := g) (by rw [e]; rfl) i v e1
      have e : (⟨g, 0, none⟩ : Addr).add i = ⟨g, i, none⟩ := by unfold Addr.add; split <;> simp_all
      rw [e] at this
      rw [Nat.zero_add]
      exact this
theorem PN.below {w w' : World} {p : Nat} {rest : List (List (List UInt8))} {st : Pst} {nb : Nat} (h : PN w p rest st nb) (hb : Below w.heap.size w w') : PN w' p rest st nb := by
  obtain ⟨wv, ev, ba, bc, a, c, h1, h2, h3, h4⟩ := h
  refine ⟨wv, ev, ba, bc, a, c, (hb.block p (Array.getElem?_eq_some_iff.1 h1).1).trans h1, h2, h3, fun hp => ?_⟩
  obtain ⟨g, o, e, hne, hc⟩ := h4 hp
  refine ⟨g, o, e, hne, fun i l hl => ?_⟩
  obtain ⟨v, e1, e2⟩ := hc i l hl
  exact ⟨v, (hb.cell (p := ⟨g, o + i, none⟩) (World.block_lt_of_cell? _ _ e1)).trans e1, e2.below hb⟩
end Mm

theorem pnew_walk (w : World) : Calls Tryd.prog 40 #[] w fun e w' => e = .returned (.pointer (some ⟨w.heap.size, 0, none⟩)) ∧ Mm.PB w' w.heap.size [] Pl.fresh (fun g => g = w.heap.size) ∧ w'.heap.size = w.heap.size + 1 ∧ Below w.heap.size w w' := by
  go_enter Tryd.func40, Tryd.ntmps40
  go_wp2_with fail
  go_ret
  refine ⟨rfl, ⟨.slice none 0 0, Mm.foot w.heap.size (.slice none 0 0) (.slice none 0 0) [], ⟨_, _, .nilIface, [], ⟨heap_alloc_new w _, Mm.ownS_nil _ _, World.ownsRow_nil _ _ _ _, ⟨rfl, fun i l h => by simp [Pl.fresh] at h⟩, fun g h => (by cases h), fun v h => (by cases h), .inr ⟨rfl, rfl⟩⟩, rfl⟩, Mm.ownB_nil _ _, fun g h => (by cases h), fun g => ?_⟩, by simp, (Below.refl _ _).alloc (Nat.le_refl _) _⟩
  constructor
  · intro e
    exact .inl (.inl e)
  · rintro ((e | e | e | ⟨v, hv, _⟩) | e)
    · exact e
    · cases e
    · cases e
    · cases hv
    · cases e

set_option maxHeartbeats 4000000 in
theorem pnext_none (p : Nat) (st : Pl.Pst) (nb : Nat) (w : World) (h : Mm.PN w p [] st nb) :
    Calls Tryd.prog 42 #[.pointer (some ⟨p, 0, none⟩)] w fun e w' => e = .returned (.tuple #[.slice none 0 0, .bool false]) ∧ w = w' := by
  obtain ⟨wv, ev, ba, bc, a, c, h1, h2, h3, h4⟩ := h
  have c6 := Mm.cellOf (i := 6) (v := .slice a 0 c) h1 rfl
  clear h1 h2 h3 h4
  go_enter Tryd.func42, Tryd.ntmps42
  go_wp2_with fail
  go_ret2
  exact ⟨rfl, rfl⟩

set_option maxHeartbeats 4000000 in
theorem pnext_some (p : Nat) (x : List (List UInt8)) (rest : List (List (List UInt8))) (st : Pl.Pst) (nb : Nat) (w : World) (h : Mm.PN w p (x :: rest) st nb) :
    Calls Tryd.prog 42 #[.pointer (some ⟨p, 0, none⟩)] w fun e w' => (∃ v, e = .returned (.tuple #[v, .bool true]) ∧ Mm.OwnS w' (p + 1) v x) ∧ Mm.PN w' p rest st nb ∧ w.grownBy w' (some p) := by
  obtain ⟨wv, ev, ba, bc, a, c, h1, h2, h3, h4⟩ := h
  obtain ⟨g, o, rfl, hne, hc⟩ := h4 (by simp)
  obtain ⟨v, e0, ho⟩ := hc 0 x rfl
  rw [Nat.add_zero] at e0
  obtain ⟨va, vc, rfl, _⟩ := ho.val
  have hl : (x :: rest).length = rest.length + 1 := rfl
  rw [hl] at h1 h2
  have c6 := Mm.cellOf (i := 6) (v := .slice (some ⟨g, o, none⟩) (rest.length + 1) c) h1 rfl
  have H1 := Pl.hid h1
  have HO := Pl.hid ho
  have HC := Pl.hid hc
  have H3 := Pl.hid h3
  have HNE := Pl.hid hne
  have hpl : p < w.heap.size := (Array.getElem?_eq_some_iff.1 h1).1
  have HPL := Pl.hid hpl
  have hcz : ¬ c = 0 := by omega
  clear h1 h3 h4 hc hl ho hne
  generalize hn : rest.length = n at c6 h2 H1
  have HN := Pl.hid hn
  clear hn
  have HFIN : Hid (∀ w6 a' c', w.grownBy w6 (some p) → w6.heap[p]? = some (.cells (Mm.cellsP (.slice ba nb bc) wv (.slice a' n c') ev st) 90 (0, 0)) → n ≤ c' → (0 < n → a' = some ⟨g, o + 1, none⟩) → Mm.PN w6 p rest st nb ∧ Mm.OwnS w6 (p + 1) (.slice va x.length vc) x) := fun w6 a' c' hg hh hnc ha => by
    have keep : ∀ v l, Mm.OwnS w (p + 1) v l → Mm.OwnS w6 (p + 1) v l := fun v l ho => ho.keep fun g0 hg0 => hg.block g0 (ho.lt g0 hg0).2 (fun e => by injection e with e; have := (ho.lt g0 hg0).1; omega)
    refine ⟨⟨wv, ev, ba, bc, a', c', by rw [HN.out]; exact hh, by rw [HN.out]; exact hnc, H3.out, fun hp => ⟨g, o + 1, ha (by rw [← HN.out]; exact hp), HNE.out, fun i l hl => ?_⟩⟩, keep _ _ HO.out⟩
    obtain ⟨v, e1, e2⟩ := HC.out (i + 1) l (by simpa using hl)
    refine ⟨v, ?_, keep _ _ e2⟩
    rw [show o + 1 + i = o + (i + 1) by omega]
    exact hg.cell e1 (fun e => by injection e with e; exact HNE.out e)
  go_enter Tryd.func42, Tryd.ntmps42
  rcases Decidable.em (c = 1) with hc1 | hc1
  · subst hc1
    obtain rfl : n = 0 := by omega
    go_wp2_with (first | (refine Mm.wp_storeF _ rfl 65 _ _ (by rfl) (by kernel_rfl) p 6 90 _ _ H1.out (by rfl) (by rfl) (by simp [Mm.cellsP]) rfl rfl ?_; intro w6 h6 hz6 hg6; have H6 := Pl.hid h6; have HG6 := Pl.hid hg6; clear h6 hz6 hg6 c6 e0))
    go_ret2
    obtain ⟨k1, k2⟩ := HFIN.out w6 _ _ HG6.out H6.out (Nat.zero_le _) (fun h => by omega)
    exact ⟨⟨_, rfl, k2⟩, k1, HG6.out⟩
  · go_wp2_with (first | (refine Mm.wp_storeF _ rfl 65 _ _ (by rfl) (by kernel_rfl) p 6 90 _ _ H1.out (by rfl) (by rfl) (by simp [Mm.cellsP]) rfl rfl ?_; intro w6 h6 hz6 hg6; have H6 := Pl.hid h6; have HG6 := Pl.hid hg6; clear h6 hz6 hg6 c6 e0))
    go_ret2
    obtain ⟨k1, k2⟩ := HFIN.out w6 _ _ HG6.out H6.out (by omega) (fun _ => rfl)
    exact ⟨⟨_, rfl, k2⟩, k1, HG6.out⟩

theorem perr_walk (p : Nat) (rest : List (List (List UInt8))) (st : Pl.Pst) (nb : Nat) (w : World) (h : Mm.PN w p rest st nb) :
    Calls Tryd.prog 44 #[.pointer (some ⟨p, 0, none⟩)] w fun e w' => (∃ ev, e = .returned ev ∧ Mm.ErrV st.err ev) ∧ w = w' := by
  obtain ⟨wv, ev, ba, bc, a, c, h1, h2, h3, h4⟩ := h
  have c7 := Mm.cellOf (i := 7) (v := ev) h1 rfl
  have H3 := Pl.hid h3
  clear h1 h2 h3 h4
  go_enter Tryd.func44, Tryd.ntmps44
  go_wp2_with fail
  go_ret
  exact ⟨⟨ev, rfl, H3.out⟩, rfl⟩

theorem pheld_walk (p : Nat) (rest : List (List (List UInt8))) (st : Pl.Pst) (nb : Nat) (w : World) (h : Mm.PN w p rest st nb) (hu : st.used ≤ 4503599627370496) (hn : nb ≤ 4503599627370496) :
    Calls Tryd.prog 43 #[.pointer (some ⟨p, 0, none⟩)] w fun e w' => e = .returned (.int .i64 ((st.used + nb : Nat) : Int)) ∧ Below w.heap.size w w' := by
  obtain ⟨wv, ev, ba, bc, a, c, h1, h2, h3, h4⟩ := h
  have c1 := Mm.cellOf (i := 1) (v := .int .i64 (st.used : Int)) h1 rfl
  have c0 := Mm.cellOf (i := 0) (v := .slice ba nb bc) h1 rfl
  clear h1 h2 h3 h4
  go_enter Tryd.func43, Tryd.ntmps43
  go_wp2_with fail
  go_quiet (fail)
  go_wp2_with fail
  go_ret
  exact ⟨rfl, Mm.below_drewN _ _⟩

set_option maxHeartbeats 4000000 in
theorem sameTexts_eq (va vb : Value) (l : List (List UInt8)) (w : World) (hl : l.length ≤ 140737488351232) (ha : Mm.RowT w va l) (hb : Mm.RowT w vb l) :
    Calls Tryd.prog 39 #[va, vb] w fun e w' => e = .returned (.bool true) ∧ Below w.heap.size w w' := by
  obtain ⟨pa, ca, rfl, ha1, ha⟩ := ha
  obtain ⟨pb, cb, rfl, hb1, hb⟩ := hb
  obtain ⟨n, hn⟩ : ∃ n, n = l.length := ⟨_, rfl⟩
  rw [← hn] at ha hb hl ha1 hb1 ⊢
  have HA := Pl.hid ha
  have HB := Pl.hid hb
  have HN := Pl.hid hn
  clear ha hb hn
  go_enter Tryd.func39, Tryd.ntmps39
  go_wp2_with fail
  go_loopw [13] (fun iv wr => ∃ i : Nat, iv = .int .i64 i ∧ i ≤ n ∧ Hid (Below w.heap.size w wr)) (fun iv _ => n - (intOf iv).toNat)
  case atStart => exact ⟨0, rfl, Nat.zero_le _, Below.refl _ _⟩
  case round =>
    obtain ⟨i, rfl, hi, HR⟩ := hrel
    rcases Nat.lt_or_ge i n with hlt | hge
    · obtain ⟨g, o, rfl, hm⟩ := HA.out (by omega)
      obtain ⟨g', o', rfl, hm'⟩ := HB.out (by omega)
      obtain ⟨s, hs⟩ : ∃ s, l[i]? = some s := ⟨_, List.getElem?_eq_getElem (by rw [← HN.out]; exact hlt)⟩
      have hc0 := hm i s hs
      have hc0' := hm' i s hs
      have hc := (HR.out.cell (p := ⟨g, o + i, none⟩) (World.block_lt_of_cell? _ _ hc0)).trans hc0
      have hc' := (HR.out.cell (p := ⟨g', o' + i, none⟩) (World.block_lt_of_cell? _ _ hc0')).trans hc0'
      clear hm hm' hc0 hc0' hs
      go_wp2_with fail
      go_quiet (fail)
      go_wp2_with fail
      go_roundw
      case rel => exact ⟨i + 1, by go_num, by omega, HR.out.trans (Mm.below_drewN _ _)⟩
      case measure => simp [intOf]; omega
    · go_wp2_with fail
      go_ret
      exact ⟨rfl, HR.out⟩
end Go.Proofs.YtakldjdohgmeiaaDoor
