/- The law's all and sameLists. Conditions stand in each law. -/
import Derived.Test.YtakldjdohgmeiaaDoorParJ
import Derived.Test.YtakldjdohgmeiaaDoorRepA
namespace Go.Proofs.YtakldjdohgmeiaaDoor
open Go.RowKit
set_option maxRecDepth 20000

namespace Mm
open Pl
/-- a row of rows of texts that may be read -/
def RowC (w : World) (v : Value) (ls : List (List (List UInt8))) : Prop := ∃ a c, v = .slice a ls.length c ∧ ls.length ≤ c ∧ (0 < ls.length → ∃ g o, a = some ⟨g, o, none⟩ ∧ ∀ i l, ls[i]? = some l → ∃ vi, w.cell? ⟨g, o + i, none⟩ = some vi ∧ RowT w vi l)
theorem RowC.below {w w' : World} {v : Value} {ls : List (List (List UInt8))} (h : RowC w v ls) (hb : Below w.heap.size w w') : RowC w' v ls := by
  obtain ⟨a, c, h1, h2, h3⟩ := h
  refine ⟨a, c, h1, h2, fun hp => ?_⟩
  obtain ⟨g, o, e, hc⟩ := h3 hp
  refine ⟨g, o, e, fun i l hl => ?_⟩
  obtain ⟨vi, k1, k2⟩ := hc i l hl
  exact ⟨vi, (hb.cell (p := ⟨g, o + i, none⟩) (World.block_lt_of_cell? _ _ k1)).trans k1, k2.below hb⟩
/-- a parser of which so many commands were not told yet, from such a place on -/
def PNc (w : World) (p g o m : Nat) (st : Pst) (nb : Nat) : Prop :=
  ∃ wv ev ba bc a c, w.heap[p]? = some (.cells (cellsP (.slice ba nb bc) wv (.slice a m c) ev st) 90 (0, 0)) ∧ m ≤ c ∧ ErrV st.err ev ∧ (0 < m → a = some ⟨g, o, none⟩)
theorem PN.cells {w : World} {p : Nat} {rest : List (List (List UInt8))} {st : Pst} {nb : Nat} (h : PN w p rest st nb) : ∃ g o, PNc w p g o rest.length st nb ∧ (0 < rest.length → g ≠ p) ∧ ∀ i l, rest[i]? = some l → ∃ v, w.cell? ⟨g, o + i, none⟩ = some v ∧ OwnS w (p + 1) v l := by
  obtain ⟨wv, ev, ba, bc, a, c, h1, h2, h3, h4⟩ := h
  rcases Nat.eq_zero_or_pos rest.length with h0 | h0
  · refine ⟨0, 0, ⟨wv, ev, ba, bc, a, c, h1, h2, h3, fun h => by omega⟩, fun h => by omega, fun i l hl => ?_⟩
    have := (List.getElem?_eq_some_iff.1 hl).1
    omega
  · obtain ⟨g, o, e, hne, hc⟩ := h4 h0
    exact ⟨g, o, ⟨wv, ev, ba, bc, a, c, h1, h2, h3, fun _ => e⟩, fun _ => hne, hc⟩
theorem PNc.keep {w w' : World} {p g o m : Nat} {st : Pst} {nb : Nat} (h : PNc w p g o m st nb) (hb : w'.heap[p]? = w.heap[p]?) : PNc w' p g o m st nb := by
  obtain ⟨wv, ev, ba, bc, a, c, h1, h2⟩ := h
  exact ⟨wv, ev, ba, bc, a, c, hb.trans h1, h2⟩
end Mm

theorem pnext_c0 (p g o : Nat) (st : Pl.Pst) (nb : Nat) (w : World) (h : Mm.PNc w p g o 0 st nb) :
    Calls Tryd.prog 42 #[.pointer (some ⟨p, 0, none⟩)] w fun e w' => e = .returned (.tuple #[.slice none 0 0, .bool false]) ∧ w = w' := by
  obtain ⟨wv, ev, ba, bc, a, c, h1, h2, h3, h4⟩ := h
  have c6 := Mm.cellOf (i := 6) (v := .slice a 0 c) h1 rfl
  clear h1 h2 h3 h4
  go_enter Tryd.func42, Tryd.ntmps42
  go_wp2_with fail
  go_ret2
  exact ⟨rfl, rfl⟩

set_option maxHeartbeats 4000000 in
theorem pnext_c (p g o m : Nat) (va : Option Addr) (vn vc : Nat) (st : Pl.Pst) (nb : Nat) (w : World) (h : Mm.PNc w p g o (m + 1) st nb) (e0 : w.cell? ⟨g, o, none⟩ = some (.slice va vn vc)) :
    Calls Tryd.prog 42 #[.pointer (some ⟨p, 0, none⟩)] w fun e w' => e = .returned (.tuple #[.slice va vn vc, .bool true]) ∧ Mm.PNc w' p g (o + 1) m st nb ∧ w.grownBy w' (some p) := by
  obtain ⟨wv, ev, ba, bc, a, c, h1, h2, h3, h4⟩ := h
  obtain rfl := h4 (by omega)
  have c6 := Mm.cellOf (i := 6) (v := .slice (some ⟨g, o, none⟩) (m + 1) c) h1 rfl
  have H1 := Pl.hid h1
  have H3 := Pl.hid h3
  have hpl : p < w.heap.size := (Array.getElem?_eq_some_iff.1 h1).1
  have hcz : ¬ c = 0 := by omega
  clear h1 h3 h4
  go_enter Tryd.func42, Tryd.ntmps42
  rcases Decidable.em (c = 1) with hc1 | hc1
  · subst hc1
    obtain rfl : m = 0 := by omega
    go_wp2_with (first | (refine Mm.wp_storeF _ rfl 65 _ _ (by rfl) (by kernel_rfl) p 6 90 _ _ H1.out (by rfl) (by rfl) (by simp [Mm.cellsP]) rfl rfl ?_; intro w6 h6 hz6 hg6; have H6 := Pl.hid h6; have HG6 := Pl.hid hg6; clear h6 hz6 hg6 c6 e0))
    go_ret2
    exact ⟨rfl, ⟨wv, ev, ba, bc, _, _, H6.out, Nat.zero_le _, H3.out, fun h => by omega⟩, HG6.out⟩
  · go_wp2_with (first | (refine Mm.wp_storeF _ rfl 65 _ _ (by rfl) (by kernel_rfl) p 6 90 _ _ H1.out (by rfl) (by rfl) (by simp [Mm.cellsP]) rfl rfl ?_; intro w6 h6 hz6 hg6; have H6 := Pl.hid h6; have HG6 := Pl.hid hg6; clear h6 hz6 hg6 c6 e0))
    go_ret2
    exact ⟨rfl, ⟨wv, ev, ba, bc, _, _, H6.out, by omega, H3.out, fun _ => rfl⟩, HG6.out⟩

set_option maxHeartbeats 4000000 in
theorem all_walk (p : Nat) (most : Nat) (rest : List (List (List UInt8))) (st : Pl.Pst) (nb : Nat) (w : World) (h : Mm.PN w p rest st nb) (hm : most ≤ 1099511627776) :
    Calls Tryd.prog 45 #[.pointer (some ⟨p, 0, none⟩), .int .i64 (most : Int)] w fun e w' => (∃ v, e = .returned v ∧ Mm.RowC w' v (rest.take (most + 1))) ∧ w.grownBy w' (some p) := by
  obtain ⟨g, o, hc, hne, hrows⟩ := h.cells
  have hpl : p < w.heap.size := by
    obtain ⟨wv, ev, ba, bc, a, c, h1, _⟩ := hc
    exact (Array.getElem?_eq_some_iff.1 h1).1
  have HPL := Pl.hid hpl
  have HROWS := Pl.hid hrows
  have HC := Pl.hid hc
  have HNE := Pl.hid hne
  clear hc hrows h hne
  go_enter Tryd.func45, Tryd.ntmps45
  go_wp2_with fail
  go_loopw [5] (fun ov wr => ∃ (k : Nat) (xs : List Value) (oa : Option Addr) (oc : Nat), ov = .slice oa k oc ∧ xs.length = k ∧ k ≤ rest.length ∧ k ≤ most + 1 ∧ Hid (wr.ownsRow w.heap.size 22 1 (.slice oa k oc) k xs) ∧ Hid (∀ i v, xs[i]? = some v → w.cell? ⟨g, o + i, none⟩ = some v) ∧
      Hid (Mm.PNc wr p g (o + k) (rest.length - k) st nb) ∧ Hid (w.grownBy wr (some p))) (fun ov _ => rest.length - Mm.sliceN ov)
  case atStart => exact ⟨0, [], none, 0, rfl, rfl, Nat.zero_le _, Nat.zero_le _, World.ownsRow_nil _ _ _ _, fun i v h => by simp at h, HC.out, ⟨rfl, rfl, rfl, Nat.le_refl _, fun _ _ _ => rfl⟩⟩
  case round =>
    obtain ⟨k, xs, oa, oc, rfl, hxk, hk, hkm, HO, HX, HP, HG⟩ := hrel
    have HFIN : Hid ((k = rest.length ∨ k = most + 1) → Mm.RowC wr (.slice oa k oc) (rest.take (most + 1))) := fun hend => by
      have hlen : (rest.take (most + 1)).length = k := by rw [List.length_take]; omega
      have hcells := fun g' hg' => HO.out.cells (g := g') hg'
      rcases HO.out.2 with ⟨e, h0⟩ | ⟨g', cap, cur, e, hg', hh, hle, _⟩
      · injection e with e1 e2 e3
        refine ⟨oa, oc, by rw [hlen], by omega, fun hp => by omega⟩
      · injection e with e1 e2 e3
        refine ⟨oa, oc, by rw [hlen], by omega, fun hp => ⟨g', 0, e1, fun i l hl => ?_⟩⟩
        have hik : i < k := by
          have := (List.getElem?_eq_some_iff.1 hl).1
          omega
        have hl' : rest[i]? = some l := by
          rw [List.getElem?_take] at hl
          split at hl
          · exact hl
          · cases hl
        obtain ⟨v, k1, k2⟩ := HROWS.out i l hl'
        have hxi : xs[i]? = some v := by
          have hx1 : xs[i]? = some (xs[i]'(by omega)) := List.getElem?_eq_getElem _
          have := HX.out i _ hx1
          rw [k1] at this
          injection this with this
          rw [hx1, this]
        have hcl := hcells g' (by rw [e1]; rfl) i v hxi
        have e0 : (⟨g', 0, none⟩ : Addr).add i = ⟨g', i, none⟩ := by unfold Addr.add; split <;> simp_all
        rw [e0] at hcl
        refine ⟨v, by rw [Nat.zero_add]; exact hcl, (k2.keep fun g0 hg0 => HG.out.block g0 (k2.lt g0 hg0).2 (fun e => by injection e with e; have := (k2.lt g0 hg0).1; omega)).rowT⟩
    rcases Nat.lt_or_ge most k with hmk | hmk
    · go_wp2_with fail
      go_ret
      exact ⟨⟨_, rfl, HFIN.out (.inr (by omega))⟩, HG.out⟩
    · rcases Nat.lt_or_ge k rest.length with hkl | hkl
      · obtain ⟨l, hl⟩ : ∃ l, rest[k]? = some l := ⟨_, List.getElem?_eq_getElem hkl⟩
        obtain ⟨vi, k1, k2⟩ := HROWS.out k l hl
        obtain ⟨va, vc, rfl, _⟩ := k2.val
        have K1 := Pl.hid k1
        have HPn : Hid (Mm.PNc wr p g (o + k) ((rest.length - (k + 1)) + 1) st nb) := by
          show Mm.PNc _ _ _ _ _ _ _
          rw [show rest.length - (k + 1) + 1 = rest.length - k by omega]
          exact HP.out
        have HK1 : Hid (wr.cell? ⟨g, o + k, none⟩ = some (.slice va l.length vc)) := HG.out.cell K1.out (fun e => by injection e with e; exact HNE.out (by omega) e)
        clear k1 k2 hl
        go_wp2_with fail
        refine (pnext_c p g (o + k) (rest.length - (k + 1)) va l.length vc st nb wr HPn.out HK1.out).mono ?_
        rintro e w3 ⟨rfl, hp3, hg3⟩
        have HP3 := Pl.hid hp3
        have HG3 := Pl.hid (Mm.gTrans HG.out hg3)
        have hz3 := HG3.out.size
        have HO3 : Hid (w3.ownsRow w.heap.size 22 1 (.slice oa k oc) xs.length xs) := by
          rw [hxk]
          exact Mm.ownsRow_keep HO.out fun g0 hg0 => hg3.block g0 (HO.out.lt g0 hg0).2 (fun e => by injection e with e; have := (HO.out.lt g0 hg0).1; omega)
        have hrb : xs.length < 4398046511103 := by omega
        clear hp3 hg3
        go_wp2_with (at_builtin; refine Mm.wp_appC _ rfl _ _ (by rfl) w3 (.slice va l.length vc) rfl w.heap.size (.slice oa k oc) xs (by rfl) HO3.out (by rfl) (by rfl) hrb hz3 ?_; intro vy wy hoy hgy haty; obtain ⟨ay, ny, ky, rfl⟩ := Mm.ownsRow_slice hoy; have HOY := Pl.hid hoy; have HGY := Pl.hid (Mm.gDrew hgy); clear hoy hgy haty)
        have hny : ny = k + 1 := by
          rcases HOY.out.2 with ⟨e, h0⟩ | ⟨g', cap, cur, e, _⟩
          · simp at h0
          · injection e with e1 e2 e3
            rw [e2, List.length_append, hxk]
            rfl
        subst hny
        go_roundw
        case rel =>
          refine ⟨k + 1, xs ++ [.slice va l.length vc], ay, ky, rfl, by simp; omega, hkl, by omega, ?_, ?_, ?_, ?_⟩
          · have h := HOY.out
            rw [show (xs ++ [Value.slice va l.length vc]).length = k + 1 by simp; omega] at h
            exact h
          · intro i v hv
            rcases Nat.lt_or_ge i k with hik | hik
            · rw [List.getElem?_append_left (by omega)] at hv
              exact HX.out i v hv
            · rw [List.getElem?_append_right (by omega)] at hv
              have h0 : i - xs.length = 0 := by
                have := (List.getElem?_eq_some_iff.1 hv).1
                simp at this
                omega
              rw [h0] at hv
              obtain rfl : Value.slice va l.length vc = v := by simpa using hv
              rw [show i = k by omega]
              exact K1.out
          · have hz : (w3.drew.alloc (.cells #[.slice va l.length vc] 22)).heap.size = w3.heap.size + 1 := by simp
            have hp := HPL.out
            refine HP3.out.keep ((HGY.out.block p (by omega) (fun e => ?_)).trans (Below.heap_alloc w3.drew _ p (by show p < w3.heap.size; omega)))
            have := (HO3.out.lt p e.symm).1
            omega
          · have hp := HPL.out
            have hz : (w3.drew.alloc (.cells #[.slice va l.length vc] 22)).heap.size = w3.heap.size + 1 := by simp
            refine ⟨HGY.out.os.trans HG3.out.os, HGY.out.tape.trans HG3.out.tape, HGY.out.output.trans HG3.out.output, by have := HGY.out.size; omega, fun g0 hg0 hn => ?_⟩
            refine ((HGY.out.block g0 (by omega) (fun e => ?_)).trans (Below.heap_alloc w3.drew _ g0 (by show g0 < w3.heap.size; omega))).trans (HG3.out.block g0 hg0 hn)
            have := (HO3.out.lt g0 e.symm).1
            omega
        case measure => simp only [Mm.sliceN]; omega
      · have HKE : Hid (k = rest.length) := by show _ = _; omega
        have HP0 : Hid (Mm.PNc wr p g (o + k) 0 st nb) := by
          show Mm.PNc _ _ _ _ _ _ _
          rw [show (0 : Nat) = rest.length - k by have := HKE.out; omega]
          exact HP.out
        go_wp2_with fail
        refine (pnext_c0 p g (o + k) st nb wr HP0.out).mono ?_
        rintro e w3 ⟨rfl, rfl⟩
        go_wp2_with fail
        go_ret
        exact ⟨⟨_, rfl, HFIN.out (.inl HKE.out)⟩, HG.out⟩

set_option maxHeartbeats 4000000 in
theorem sameLists_eq (va vb : Value) (ls : List (List (List UInt8))) (w : World) (hl : ls.length ≤ 140737488351232) (hll : ∀ l ∈ ls, l.length ≤ 140737488351232) (ha : Mm.RowC w va ls) (hb : Mm.RowC w vb ls) :
    Calls Tryd.prog 46 #[va, vb] w fun e w' => e = .returned (.bool true) ∧ Below w.heap.size w w' := by
  obtain ⟨pa, ca, rfl, ha1, ha⟩ := ha
  obtain ⟨pb, cb, rfl, hb1, hb⟩ := hb
  obtain ⟨n, hn⟩ : ∃ n, n = ls.length := ⟨_, rfl⟩
  rw [← hn] at ha hb hl ha1 hb1 ⊢
  have HA := Pl.hid ha
  have HB := Pl.hid hb
  have HN := Pl.hid hn
  have HLL := Pl.hid hll
  clear ha hb hn hll
  go_enter Tryd.func46, Tryd.ntmps46
  go_wp2_with fail
  go_loopw [13] (fun iv wr => ∃ i : Nat, iv = .int .i64 i ∧ i ≤ n ∧ Hid (Below w.heap.size w wr)) (fun iv _ => n - (intOf iv).toNat)
  case atStart => exact ⟨0, rfl, Nat.zero_le _, Below.refl _ _⟩
  case round =>
    obtain ⟨i, rfl, hi, HR⟩ := hrel
    rcases Nat.lt_or_ge i n with hlt | hge
    · obtain ⟨g, o, rfl, hm⟩ := HA.out (by omega)
      obtain ⟨g', o', rfl, hm'⟩ := HB.out (by omega)
      obtain ⟨l, hs⟩ : ∃ l, ls[i]? = some l := ⟨_, List.getElem?_eq_getElem (by rw [← HN.out]; exact hlt)⟩
      obtain ⟨v1, hc0, hr0⟩ := hm i l hs
      obtain ⟨v2, hc0', hr0'⟩ := hm' i l hs
      have hc := (HR.out.cell (p := ⟨g, o + i, none⟩) (World.block_lt_of_cell? _ _ hc0)).trans hc0
      have hc' := (HR.out.cell (p := ⟨g', o' + i, none⟩) (World.block_lt_of_cell? _ _ hc0')).trans hc0'
      have HR1 := Pl.hid (hr0.below HR.out)
      have HR2 := Pl.hid (hr0'.below HR.out)
      have hlen := HLL.out l (List.mem_of_getElem? hs)
      clear hm hm' hc0 hc0' hs hr0 hr0'
      go_wp2_with fail
      go_region_law (first | (go_simp; go_at_call 39; refine (sameTexts_eq _ _ l _ hlen (by first | exact HR1.out | exact HR1.out.below (Mm.below_drewN _ 1)) (by first | exact HR2.out | exact HR2.out.below (Mm.below_drewN _ 1))).mono ?_; rintro e w3 ⟨rfl, hb3⟩))
      all_goals
        have HB3 : Hid (Below w.heap.size w w3) := HR.out.trans (((by first | exact hb3 | exact Mm.undrew hb3 : Below wr.heap.size wr w3)).mono HR.out.size)
        clear hb3
        go_wp2_with fail
        go_roundw
        case rel => exact ⟨i + 1, by go_num, by omega, HB3⟩
        case measure => simp [intOf]; omega
    · go_wp2_with fail
      go_ret
      exact ⟨rfl, HR.out⟩
end Go.Proofs.YtakldjdohgmeiaaDoor
