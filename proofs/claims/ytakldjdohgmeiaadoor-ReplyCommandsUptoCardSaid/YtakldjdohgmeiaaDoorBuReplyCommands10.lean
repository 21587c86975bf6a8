/- A parser that is asked: Go's New, Next, Err, Held; rows of texts. Conditions stand in each law. reply's Bulk, Bulks, Request. Conditions stand in each law. reply's lay of a reply that is no array and no bulk. Conditions stand in each law. Replies that may be: their bytes, their depth; reply's lay. Conditions stand in each law. Conditions stand in each law. -/
import Derived.Test.YtakldjdohgmeiaaDoorBuReplyCommands9
import Derived.Test.YtakldjdohgmeiaaDoorBuReplyCommands2
namespace Go.Proofs.YtakldjdohgmeiaaDoor
open Go.RowKit
set_option maxRecDepth 20000

namespace Mm
open Pl
/-- a row of texts that may be read -/
def RowT (w : World) (v : Value) (l : List (List UInt8)) : Prop := ∃ a c, v = .slice a l.length c ∧ l.length ≤ c ∧ (0 < l.length → ∃ g o, a = some ⟨g, o, none⟩ ∧ ∀ i s, l[i]? = some s → w.cell? ⟨g, o + i, none⟩ = some (.string (B s)))
theorem OwnS.rowT {w : World} {b : Nat} {v : Value} {l : List (List UInt8)} (h : OwnS w b v l) : RowT w v l := by
  obtain ⟨a, c, rfl, h0 | ⟨g, rfl, _, hg, hle⟩⟩ := h.val
  · exact ⟨_, _, rfl, by omega, fun h => by omega⟩
  · refine ⟨_, _, rfl, hle, fun _ => ⟨g, 0, rfl, fun i s hs => ?_⟩⟩
    have := h.cells (g := g) rfl i (.string (B s)) (by simp [strsV, hs])
    have e : (⟨g, 0, none⟩ : Addr).add i = ⟨g, i, none⟩ := by unfold Addr.add; split <;> simp_all
    rw [e] at this
    rw [Nat.zero_add]
    exact this
theorem RowT.below {w w' : World} {v : Value} {l : List (List UInt8)} (h : RowT w v l) (hb : Below w.heap.size w w') : RowT w' v l := by
  obtain ⟨a, c, h1, h2, h3⟩ := h
  refine ⟨a, c, h1, h2, fun hp => ?_⟩
  obtain ⟨g, o, e, hc⟩ := h3 hp
  exact ⟨g, o, e, fun i s hs => (hb.cell (p := ⟨g, o + i, none⟩) (World.block_lt_of_cell? _ _ (hc i s hs))).trans (hc i s hs)⟩
/-- a parser that is only asked: what is ready and was not told yet, and how many bytes are held -/
def PN (w : World) (p : Nat) (rest : List (List (List UInt8))) (st : Pst) (nb : Nat) : Prop :=
  ∃ wv ev ba bc a c, w.heap[p]? = some (.cells (cellsP (.slice ba nb bc) wv (.slice a rest.length c) ev st) 90 (0, 0)) ∧ rest.length ≤ c ∧ ErrV st.err ev ∧
    (0 < rest.length → ∃ g o, a = some ⟨g, o, none⟩ ∧ g ≠ p ∧ ∀ i l, rest[i]? = some l → ∃ v, w.cell? ⟨g, o + i, none⟩ = some v ∧ OwnS w (p + 1) v l)
theorem PB.asked {w : World} {p : Nat} {buf : List UInt8} {st : Pst} {G : Nat → Prop} (h : PB w p buf st G) : PN w p st.ready st buf.length := by
  obtain ⟨bv, F, ⟨wv, rv, ev, rows, hv, _⟩, ho, _, _⟩ := h
  obtain ⟨ba, bc, rfl, _⟩ := ho.val
  have hlen := hv.2.2.2.1.1
  rcases hv.2.2.1.2 with ⟨e, h0⟩ | ⟨g, cap, cur, e, hg, hh, hle, _⟩
  · have hz : st.ready.length = 0 := by omega
    refine ⟨wv, ev, ba, bc, none, 0, ?_, by omega, hv.2.2.2.2.2.2, fun h => by omega⟩
    rw [hz, ← e]
    exact hv.1
  · refine ⟨wv, ev, ba, bc, some ⟨g, 0, none⟩, cap, ?_, by omega, hv.2.2.2.2.2.2, fun hp => ⟨g, 0, rfl, by omega, fun i l hl => ?_⟩⟩
    · rw [← hlen, ← e]
      exact hv.1
    · obtain ⟨v, e1, e2⟩ := hv.2.2.2.1.2 i l hl
      refine ⟨v, ?_, e2⟩
      have := hv.2.2.1.cells (g := g) (by rw [e]; rfl) i v e1
      have e : (⟨g, 0, none⟩ : Addr).add i = ⟨g, i, none⟩ := by unfold Addr.add; split <;> simp_all
      rw [e] at this
      rw [Nat.zero_add]
      exact this
theorem PN.below {w w' : World} {p : Nat} {rest : List (List (List UInt8))} {st : Pst} {nb : Nat} (h : PN w p rest st nb) (hb : Below w.heap.size w w') : PN w' p rest st nb := by
  obtain ⟨wv, ev, ba, bc, a, c, h1, h2, h3, h4⟩ := h
  refine ⟨wv, ev, ba, bc, a, c, (hb.block p (Array.getElem?_eq_some_iff.1 h1).1).trans h1, h2, h3, fun hp => ?_⟩
  obtain ⟨g, o, e, hne, hc⟩ := h4 hp
  refine ⟨g, o, e, hne, fun i l hl => ?_⟩
  obtain ⟨v, e1, e2⟩ := hc i l hl
  exact ⟨v, (hb.cell (p := ⟨g, o + i, none⟩) (World.block_lt_of_cell? _ _ e1)).trans e1, e2.below hb⟩
end Mm

theorem pnew_walk (w : World) : Calls Tryd.prog 40 #[] w fun e w' => e = .returned (.pointer (some ⟨w.heap.size, 0, none⟩)) ∧ Mm.PB w' w.heap.size [] Pl.fresh (fun g => g = w.heap.size) ∧ w'.heap.size = w.heap.size + 1 ∧ Below w.heap.size w w' := by
  go_enter Tryd.func40, Tryd.ntmps40
  go_wp2_with fail
  go_ret
  refine ⟨rfl, ⟨.slice none 0 0, Mm.foot w.heap.size (.slice none 0 0) (.slice none 0 0) [], ⟨_, _, .nilIface, [], ⟨heap_alloc_new w _, Mm.ownS_nil _ _, World.ownsRow_nil _ _ _ _, ⟨rfl, fun i l h => by simp [Pl.fresh] at h⟩, fun g h => (by cases h), fun v h => (by cases h), .inr ⟨rfl, rfl⟩⟩, rfl⟩, Mm.ownB_nil _ _, fun g h => (by cases h), fun g => ?_⟩, by simp, (Below.refl _ _).alloc (Nat.le_refl _) _⟩
  constructor
  · intro e
    exact .inl (.inl e)
  · rintro ((e | e | e | ⟨v, hv, _⟩) | e)
    · exact e
    · cases e
    · cases e
    · cases hv
    · cases e

set_option maxHeartbeats 4000000 in
theorem pnext_none (p : Nat) (st : Pl.Pst) (nb : Nat) (w : World) (h : Mm.PN w p [] st nb) :
    Calls Tryd.prog 42 #[.pointer (some ⟨p, 0, none⟩)] w fun e w' => e = .returned (.tuple #[.slice none 0 0, .bool false]) ∧ w = w' := by
  obtain ⟨wv, ev, ba, bc, a, c, h1, h2, h3, h4⟩ := h
  have c6 := Mm.cellOf (i := 6) (v := .slice a 0 c) h1 rfl
  clear h1 h2 h3 h4
  go_enter Tryd.func42, Tryd.ntmps42
  go_wp2_with fail
  go_ret2
  exact ⟨rfl, rfl⟩

set_option maxHeartbeats 4000000 in
theorem pnext_some (p : Nat) (x : List (List UInt8)) (rest : List (List (List UInt8))) (st : Pl.Pst) (nb : Nat) (w : World) (h : Mm.PN w p (x :: rest) st nb) :
    Calls Tryd.prog 42 #[.pointer (some ⟨p, 0, none⟩)] w fun e w' => (∃ v, e = .returned (.tuple #[v, .bool true]) ∧ Mm.OwnS w' (p + 1) v x) ∧ Mm.PN w' p rest st nb ∧ w.grownBy w' (some p) := by
  obtain ⟨wv, ev, ba, bc, a, c, h1, h2, h3, h4⟩ := h
  obtain ⟨g, o, rfl, hne, hc⟩ := h4 (by simp)
  obtain ⟨v, e0, ho⟩ := hc 0 x rfl
  rw [Nat.add_zero] at e0
  obtain ⟨va, vc, rfl, _⟩ := ho.val
  have hl : (x :: rest).length = rest.length + 1 := rfl
  rw [hl] at h1 h2
  have c6 := Mm.cellOf (i := 6) (v := .slice (some ⟨g, o, none⟩) (rest.length + 1) c) h1 rfl
  have H1 := Pl.hid h1
  have HO := Pl.hid ho
  have HC := Pl.hid hc
  have H3 := Pl.hid h3
  have HNE := Pl.hid hne
  have hpl : p < w.heap.size := (Array.getElem?_eq_some_iff.1 h1).1
  have HPL := Pl.hid hpl
  have hcz : ¬ c = 0 := by omega
  clear h1 h3 h4 hc hl ho hne
  generalize hn : rest.length = n at c6 h2 H1
  have HN := Pl.hid hn
  clear hn
  have HFIN : Hid (∀ w6 a' c', w.grownBy w6 (some p) → w6.heap[p]? = some (.cells (Mm.cellsP (.slice ba nb bc) wv (.slice a' n c') ev st) 90 (0, 0)) → n ≤ c' → (0 < n → a' = some ⟨g, o + 1, none⟩) → Mm.PN w6 p rest st nb ∧ Mm.OwnS w6 (p + 1) (.slice va x.length vc) x) := fun w6 a' c' hg hh hnc ha => by
    have keep : ∀ v l, Mm.OwnS w (p + 1) v l → Mm.OwnS w6 (p + 1) v l := fun v l ho => ho.keep fun g0 hg0 => hg.block g0 (ho.lt g0 hg0).2 (fun e => by injection e with e; have := (ho.lt g0 hg0).1; omega)
    refine ⟨⟨wv, ev, ba, bc, a', c', by rw [HN.out]; exact hh, by rw [HN.out]; exact hnc, H3.out, fun hp => ⟨g, o + 1, ha (by rw [← HN.out]; exact hp), HNE.out, fun i l hl => ?_⟩⟩, keep _ _ HO.out⟩
    obtain ⟨v, e1, e2⟩ := HC.out (i + 1) l (by simpa using hl)
    refine ⟨v, ?_, keep _ _ e2⟩
    rw [show o + 1 + i = o + (i + 1) by omega]
    exact hg.cell e1 (fun e => by injection e with e; exact HNE.out e)
  go_enter Tryd.func42, Tryd.ntmps42
  rcases Decidable.em (c = 1) with hc1 | hc1
  · subst hc1
    obtain rfl : n = 0 := by omega
    go_wp2_with (first | (refine Mm.wp_storeF _ rfl 65 _ _ (by rfl) (by kernel_rfl) p 6 90 _ _ H1.out (by rfl) (by rfl) (by simp [Mm.cellsP]) rfl rfl ?_; intro w6 h6 hz6 hg6; have H6 := Pl.hid h6; have HG6 := Pl.hid hg6; clear h6 hz6 hg6 c6 e0))
    go_ret2
    obtain ⟨k1, k2⟩ := HFIN.out w6 _ _ HG6.out H6.out (Nat.zero_le _) (fun h => by omega)
    exact ⟨⟨_, rfl, k2⟩, k1, HG6.out⟩
  · go_wp2_with (first | (refine Mm.wp_storeF _ rfl 65 _ _ (by rfl) (by kernel_rfl) p 6 90 _ _ H1.out (by rfl) (by rfl) (by simp [Mm.cellsP]) rfl rfl ?_; intro w6 h6 hz6 hg6; have H6 := Pl.hid h6; have HG6 := Pl.hid hg6; clear h6 hz6 hg6 c6 e0))
    go_ret2
    obtain ⟨k1, k2⟩ := HFIN.out w6 _ _ HG6.out H6.out (by omega) (fun _ => rfl)
    exact ⟨⟨_, rfl, k2⟩, k1, HG6.out⟩

theorem perr_walk (p : Nat) (rest : List (List (List UInt8))) (st : Pl.Pst) (nb : Nat) (w : World) (h : Mm.PN w p rest st nb) :
    Calls Tryd.prog 44 #[.pointer (some ⟨p, 0, none⟩)] w fun e w' => (∃ ev, e = .returned ev ∧ Mm.ErrV st.err ev) ∧ w = w' := by
  obtain ⟨wv, ev, ba, bc, a, c, h1, h2, h3, h4⟩ := h
  have c7 := Mm.cellOf (i := 7) (v := ev) h1 rfl
  have H3 := Pl.hid h3
  clear h1 h2 h3 h4
  go_enter Tryd.func44, Tryd.ntmps44
  go_wp2_with fail
  go_ret
  exact ⟨⟨ev, rfl, H3.out⟩, rfl⟩

namespace Mm
open Pl
theorem bytes_alloc (w : World) (l : List UInt8) (fr : Nat × Nat) : BytesAt (w.alloc (.cells (bytesV l).toArray 5 fr)) w.heap.size 0 l := fun j hj => by
  rw [Nat.zero_add, World.cell?_alloc_mark]
  simp only [List.getElem?_toArray, bytesV, List.getElem?_map, List.getElem?_eq_getElem hj, Option.map_some, Option.some.injEq]
  unfold byteV at_
  rw [List.getD_eq_getElem?_getD, List.getElem?_eq_getElem hj]
  rfl
theorem bs_alloc (w : World) (l : List UInt8) (fr : Nat × Nat) (n : Nat) (hn : n = l.length) : Bs (w.alloc (.cells (bytesV l).toArray 5 fr)) (.slice (some ⟨w.heap.size, 0, none⟩) n n) l := by
  subst hn
  exact ⟨_, _, rfl, Nat.le_refl _, fun e => (by cases e), fun _ => ⟨_, _, rfl, bytes_alloc w l fr⟩⟩
theorem rowT_alloc (w : World) (l : List (List UInt8)) (n : Nat) (hn : n = l.length) : RowT (w.alloc (.cells (strsV l).toArray 9)) (.slice (some ⟨w.heap.size, 0, none⟩) n n) l := by
  subst hn
  refine ⟨_, _, rfl, Nat.le_refl _, fun _ => ⟨_, _, rfl, fun i s hs => ?_⟩⟩
  rw [Nat.zero_add, World.cell?_alloc_mark]
  simp [strsV, hs]
theorem PB.below {w w' : World} {p : Nat} {buf : List UInt8} {st : Pst} {G : Nat → Prop} (h : PB w p buf st G) (hb : Below w.heap.size w w') : PB w' p buf st G := by
  obtain ⟨bv, F, h1, h2, h3, h4⟩ := h
  exact ⟨bv, F, h1.below hb, h2.keep (fun g hg => hb.block g (h2.lt g hg).2), h3, h4⟩
theorem Chg.under0 {B : Nat} {W w w' : World} {F F' : Nat → Prop} (h : Chg w F w' F') (hB : B ≤ W.heap.size) (hW : Below B W w) (hF : ∀ g, F g → B ≤ g) : Below B W w' :=
  ⟨h.os.trans hW.os, h.tape.trans hW.tape, h.output.trans hW.output, Nat.le_trans hW.size h.size, fun g hg => (h.block g (Nat.lt_of_lt_of_le hg (Nat.le_trans hB hW.size)) (fun hf => by have := hF g hf; omega)).trans (hW.block g hg)⟩
theorem OwnS.st {w w' : World} {p : Nat} {v : Value} {l : List (List UInt8)} (h : OwnS w (p + 1) v l) (hg : w.grownBy w' (some p)) : OwnS w' (p + 1) v l :=
  h.keep fun g0 hg0 => hg.block g0 (h.lt g0 hg0).2 (fun e => by injection e with e; have := (h.lt g0 hg0).1; omega)
end Mm
end Go.Proofs.YtakldjdohgmeiaaDoor

namespace Go.Proofs.YtakldjdohgmeiaaDoor
open Go.RowKit
set_option maxRecDepth 20000

theorem Mm.OwnB.base0 {w : World} {b b' : Nat} {v : Value} {l : List UInt8} (h : Mm.OwnB w b v l) (hb : b' ≤ b) : Mm.OwnB w b' v l := by
  obtain ⟨hl, h0 | ⟨g, cap, cur, hv, hg, r⟩⟩ := h
  · exact ⟨hl, .inl h0⟩
  · exact ⟨hl, .inr ⟨g, cap, cur, hv, Nat.le_trans hb hg, r⟩⟩
theorem bulk_walk (s : ByteArray) (w : World) : Calls Tryd.prog 31 #[.string s] w fun e w' => e = .returned (.agg #[.int .i64 4, .string s, .int .i64 0, .slice none 0 0]) ∧ Below w.heap.size w w' := by
  go_enter Tryd.func31, Tryd.ntmps31
  go_wp2_with (refine Mm.wp_store4 _ rfl _ _ rfl w.heap.size _ _ _ _ _ _ (heap_alloc_new w _) rfl rfl rfl (by intro u hu; simp at hu; rcases hu with rfl | rfl | rfl | rfl <;> rfl) ?_; intro w4 hw4 hs4 hg4; have HW4 := Pl.hid hw4; have HG4 := Pl.hid hg4; clear hw4 hs4 hg4)
  (try simp only [Exit.inBlock, Exit.then])
  refine bodyPost_ret (Mm.res_cell rfl _ w4 w.heap.size _ _ _ _ _ _ rfl HW4.out) rfl ?_
  exact ⟨rfl, ((Below.refl _ _).alloc (Nat.le_refl _) _).grown HG4.out (by simp) (fun k hk => by injection hk with hk; omega)⟩

set_option maxHeartbeats 8000000 in
theorem bulks_walk (v : Value) (ws : List (List UInt8)) (w : World) (hv : Mm.RowT w v ws) (hn : ws.length ≤ 1048576) (hs : ∀ s ∈ ws, s.length ≤ 1048576) :
    Calls Tryd.prog 13 #[v] w fun e w' => ∃ c0 c1 c2 c3, e = .returned (.agg #[c0, c1, c2, c3]) ∧ Mm.RepX w' (Pl.reqT ws) [c0, c1, c2, c3] ∧ Below w.heap.size w w' := by
  obtain ⟨a, c, rfl, hc, hcell⟩ := hv
  obtain ⟨n, hnn⟩ : ∃ n, n = ws.length := ⟨_, rfl⟩
  rw [← hnn] at hc hcell hn ⊢
  have HNN := Pl.hid hnn
  have HCELL := Pl.hid hcell
  have HSS := Pl.hid hs
  clear hcell hnn hs
  go_enter Tryd.func13, Tryd.ntmps13
  go_wp2_with fail
  generalize hw3 : World.alloc _ _ = w3
  obtain ⟨p, hp⟩ : ∃ p, p = w.heap.size + 1 := ⟨_, rfl⟩
  obtain ⟨r, hr⟩ : ∃ r, r = w.heap.size := ⟨_, rfl⟩
  have HP3 : Hid (w3.heap[p]? = some (.cells #[.int .i64 6, .string ⟨#[]⟩, .int .i64 0, .slice none 0 0] 31 (0, 0))) := by
    show _ = _
    rw [← hw3, hp]
    have := heap_alloc_new (w.alloc (.cells #[.int .i64 0, .string ⟨#[]⟩, .int .i64 0, .slice none 0 0] 31)) (.cells #[.int .i64 6, .string ⟨#[]⟩, .int .i64 0, .slice none 0 0] 31)
    simpa using this
  have HR3 : Hid (w3.heap[r]? = some (.cells #[.int .i64 0, .string ⟨#[]⟩, .int .i64 0, .slice none 0 0] 31 (0, 0))) := by
    show _ = _
    rw [← hw3, hr, Below.heap_alloc _ _ _ (by simp)]
    exact heap_alloc_new w _
  have HB3 : Hid (Below w.heap.size w w3) := by rw [← hw3]; exact ((Below.refl _ _).alloc (Nat.le_refl _) _).alloc (by simp) _
  have HS3 : Hid (w3.heap.size = w.heap.size + 2) := by show _ = _; rw [← hw3]; simp
  have HPR : Hid (p = w.heap.size + 1 ∧ r = w.heap.size) := ⟨hp, hr⟩
  obtain ⟨lo, hlo⟩ : ∃ lo, lo = w3.heap.size := ⟨_, rfl⟩
  have HLO : Hid (lo = w.heap.size + 2 ∧ lo = w3.heap.size) := ⟨hlo.trans HS3.out, hlo⟩
  rw [← hp, ← hr]
  clear hw3 hp hr hlo
  go_loopw [9] (fun iv wr => ∃ (i : Nat) (lv : Value), iv = .int .i64 i ∧ i ≤ n ∧ Hid (wr.heap[p]? = some (.cells #[.int .i64 6, .string ⟨#[]⟩, .int .i64 0, lv] 31 (0, 0))) ∧
      Hid (wr.heap[r]? = some (.cells #[.int .i64 0, .string ⟨#[]⟩, .int .i64 0, .slice none 0 0] 31 (0, 0))) ∧ Hid (Mm.OwnL wr lo lv ((ws.take i).map Pl.bulkT)) ∧ Hid (Below w.heap.size w wr ∧ lo ≤ wr.heap.size)) (fun iv _ => n - (intOf iv).toNat)
  case atStart => exact ⟨0, .slice none 0 0, rfl, Nat.zero_le _, HP3, HR3, Mm.OwnL.nil w3 lo, HB3.out, Nat.le_of_eq HLO.out.2⟩
  case round =>
    obtain ⟨i, lv, rfl, hi, HP, HR, HO, HBr⟩ := hrel
    rcases Nat.lt_or_ge i n with hlt | hge
    · obtain ⟨g, o, rfl, hm⟩ := HCELL.out (by omega)
      obtain ⟨s, hs⟩ : ∃ s, ws[i]? = some s := ⟨_, List.getElem?_eq_getElem (by rw [← HNN.out]; exact hlt)⟩
      have hc0 := hm i s hs
      have hcs := (HBr.out.1.cell (p := ⟨g, o + i, none⟩) (World.block_lt_of_cell? _ _ hc0)).trans hc0
      have HS := Pl.hid hs
      have hpl : p < wr.heap.size := (Array.getElem?_eq_some_iff.1 HP.out).1
      have HPLT := Pl.hid hpl
      have HLN : Hid (((ws.take i).map Pl.bulkT).length < 1073741824) := by show _ < _; rw [List.length_map, List.length_take]; omega
      have p3 : wr.cell? ⟨p, 3, none⟩ = some lv := Mm.cellOf HP.out rfl
      have ST5 : Hid (∀ (w5 : World), Below wr.heap.size wr w5 → w5.cell? ⟨p, 3, none⟩ = some lv ∧ (w5.alloc (.cells #[.int .i64 4, .string (Pl.B s), .int .i64 0, .slice none 0 0] 31)).cell? ⟨p, 3, none⟩ = some lv ∧
          Hid (Mm.OwnT w5 wr.heap.size (Pl.bulkT s) [.int .i64 4, .string (Pl.B s), .int .i64 0, .slice none 0 0]) ∧ Hid (Below wr.heap.size wr w5) ∧ Hid (w5.heap[p]? = some (.cells #[.int .i64 6, .string ⟨#[]⟩, .int .i64 0, lv] 31 (0, 0))) ∧ Hid (w5.heap[r]? = some (.cells #[.int .i64 0, .string ⟨#[]⟩, .int .i64 0, .slice none 0 0] 31 (0, 0)))) := fun w5 hb => by
        have h5 := (hb.block p HPLT.out).trans HP.out
        have c5 : w5.cell? ⟨p, 3, none⟩ = some lv := Mm.cellOf h5 rfl
        exact ⟨c5, (World.cell?_alloc_old _ _ _ (Nat.ne_of_lt (Nat.lt_of_lt_of_le HPLT.out hb.size))).trans c5, (Mm.OwnL.nil w5 wr.heap.size).rep 4 (Pl.B s) 0, hb, h5, (hb.block r (Array.getElem?_eq_some_iff.1 HR.out).1).trans HR.out⟩
      have ST6 : Hid (∀ (w5 w6 : World), w5.heap[p]? = some (.cells #[.int .i64 6, .string ⟨#[]⟩, .int .i64 0, lv] 31 (0, 0)) → Below lo w5 w6 → w6.cell? ⟨p, 3, none⟩ = some lv ∧ w6.frozen? ⟨p, 3, none⟩ = false) := fun w5 w6 h5 hb => by
        have h6 := (hb.block p (by have := HLO.out; have := HPR.out; omega)).trans h5
        exact ⟨Mm.cellOf h6 rfl, Mm.frozenOf h6⟩
      clear hm hc0 hs
      go_wp2_with fail
      clear hcs
      go_region_law (first
        | (go_simp; go_at_call 31; refine (bulk_walk (Pl.B s) _).mono ?_; rintro e w5 ⟨rfl, hb5⟩; obtain ⟨p5, p5a, HT5, HB5, HP5, HR5⟩ := ST5.out w5 (by first | exact hb5 | exact Mm.undrew hb5); clear hb5)
        | (refine Mm.step_appR _ (by rfl) _ _ (by rfl) wr w5 lo lv ((ws.take i).map Pl.bulkT) (by rfl) HO.out (Pl.bulkT s) [.int .i64 4, .string (Pl.B s), .int .i64 0, .slice none 0 0] HT5.out (by rfl) (by rfl) HB5.out HLN.out HBr.out.2 ?_; intro v6 w6 ho6 hb6 _; obtain ⟨a6, k6, rfl⟩ := ho6.val; obtain ⟨p6, pf6⟩ := ST6.out w5 w6 HP5.out hb6; have HO6 := Pl.hid ho6; have HB6 := Pl.hid hb6; clear ho6 hb6))
      all_goals
        have HV : Hid (((ws.take i).map Pl.bulkT ++ [Pl.bulkT s]).length = min i ws.length + 1) := by show _ = _; simp
        have HVT : Hid ((ws.take i).map Pl.bulkT ++ [Pl.bulkT s] = (ws.take (i + 1)).map Pl.bulkT) := by show _ = _; rw [List.take_add_one, HS.out]; simp
        have HO6' : Hid (Mm.OwnL w6 lo (.slice a6 (min i ws.length + 1) k6) ((ws.take (i + 1)).map Pl.bulkT)) := by
          have := HO6.out
          rw [HV.out, HVT.out] at this
          exact this
        have HP7 := Pl.hid (Mm.heapSet ((HB6.out.block p (by have := HLO.out; have := HPR.out; omega)).trans HP5.out) 3 (.slice a6 (min i ws.length + 1) k6))
        have HG7 := Pl.hid (Mm.grownSet w6 p 3 (.slice a6 (min i ws.length + 1) k6))
        generalize World.setCell w6 _ _ = w7 at HP7 HG7 ⊢
        clear p6 pf6 p5 p5a p3 HO6
        go_wp2_with fail
        have hlo := HLO.out
        have hpr := HPR.out
        have h5z := HB5.out.size
        have h6z := HB6.out.size
        have hbr := HBr.out.2
        refine ⟨⟨i + 1, _, by go_num, hlt, HP7, ?_, ?_, ?_⟩, by simp [intOf]; omega⟩
        · show _ = _
          have hrl := (Array.getElem?_eq_some_iff.1 HR.out).1
          rw [HG7.out.block r (by omega) (by intro e; cases e; omega), HB6.out.block r (by omega)]
          exact HR5.out
        · exact HO6'.out.keepLo fun g hg hgl => HG7.out.block g hgl (by intro e; cases e; omega)
        · refine ⟨(HBr.out.1.trans (((HB5.out.mono (by omega)).trans (HB6.out.mono (by omega))))).grown HG7.out (by have := HBr.out.1.size; omega) (fun k hk => by cases hk; omega), ?_⟩
          have := HG7.out.size
          omega
    · have hie : i = n := by omega
      subst hie
      have HO' : Hid (Mm.OwnL wr lo lv (ws.map Pl.bulkT)) := by have := HO.out; rw [HNN.out, List.take_length] at this; exact this
      have p0 := Mm.cellOf (i := 0) (v := .int .i64 6) HP.out rfl
      have p1 := Mm.cellOf (i := 1) (v := .string ⟨#[]⟩) HP.out rfl
      have p2 := Mm.cellOf (i := 2) (v := .int .i64 0) HP.out rfl
      have p3 := Mm.cellOf (i := 3) (v := lv) HP.out rfl
      go_wp2_with (refine Mm.wp_store4 _ rfl _ _ rfl r _ _ (.int .i64 6) (.string ⟨#[]⟩) (.int .i64 0) lv HR.out rfl rfl rfl (by intro u hu; simp only [List.mem_cons, List.mem_nil_iff, or_false] at hu; rcases hu with rfl | rfl | rfl | rfl <;> first | rfl | exact HO'.out.one.1) ?_; intro wf hwf hsf hgf; have HWF := Pl.hid hwf; have HG := Pl.hid hgf; clear hwf hsf hgf)
      have hlo := HLO.out
      have hpr := HPR.out
      have hbr := HBr.out.2
      (try simp only [Exit.inBlock, Exit.then])
      refine bodyPost_ret (Mm.res_cell rfl _ wf r _ _ _ _ _ _ rfl HWF.out) rfl ?_
      refine ⟨_, _, _, _, rfl, ?_, HBr.out.1.grown HG.out (by omega) (fun k hk => by cases hk; omega)⟩
      refine ((HO'.out.rep 6 ⟨#[]⟩ 0).keepLo (fun g hg hgl => HG.out.block g hgl ?_)).x
      intro e
      cases e
      omega
theorem request_walk (v : Value) (ws : List (List UInt8)) (W w : World) (hT : Mm.Tab W) (hW : Below W.heap.size W w) (hv : Mm.RowT w v ws) (hn : ws.length ≤ 1048576) (hs : ∀ s ∈ ws, s.length ≤ 1048576) (hl : (Pl.reqE ws).length ≤ 1099511627776) :
    Calls Tryd.prog 11 #[v] w fun e w' => ∃ v', e = .returned v' ∧ Mm.OwnB w' w.heap.size v' (Pl.reqE ws) ∧ Below w.heap.size w w' := by
  have HT := Pl.hid hT
  have HW := Pl.hid hW
  have HV := Pl.hid hv
  clear hT hW hv
  go_enter Tryd.func11, Tryd.ntmps11
  go_wp2_with fail
  refine (bulks_walk v ws w HV.out hn hs).mono ?_
  rintro e w1 ⟨c0, c1, c2, c3, rfl, hx, hb1⟩
  have HB1 := Pl.hid hb1
  have HX := Pl.hid hx
  clear hx hb1
  go_wp2_with fail
  refine (lay_arr ws c0 c1 c2 c3 w1.heap.size _ [] w1 w1 (HT.out.on (HW.out.trans (HB1.out.mono HW.out.size))) HX.out (Below.refl _ _) (Nat.le_refl _) (Nat.le_refl _) (Mm.ownB_nil _ _) (by simpa using hl) (by omega) (fun s h => by have := hs s h; omega)).mono ?_
  rintro e w2 ⟨v2, rfl, ho2, hb2, _⟩
  have HO2 := Pl.hid ho2
  have HB2 := Pl.hid hb2
  clear ho2 hb2
  go_wp2_with fail
  go_ret
  refine ⟨_, rfl, ?_, HB1.out.trans (HB2.out.mono HB1.out.size)⟩
  have := HO2.out
  rw [List.nil_append] at this
  exact this.base0 HB1.out.size
end Go.Proofs.YtakldjdohgmeiaaDoor

namespace Go.Proofs.YtakldjdohgmeiaaDoor
open Go.RowKit
set_option maxRecDepth 20000

theorem sign_1 (w : World) : Calls Tryd.prog 60 #[.int .i64 1] w fun e w' => e = .returned (.int .u8 43) ∧ w = w' := by
  go_enter Tryd.func60, Tryd.ntmps60
  go_wp2_with fail
  go_ret
  exact ⟨rfl, rfl⟩
theorem sign_2 (w : World) : Calls Tryd.prog 60 #[.int .i64 2] w fun e w' => e = .returned (.int .u8 45) ∧ w = w' := by
  go_enter Tryd.func60, Tryd.ntmps60
  go_wp2_with fail
  go_ret
  exact ⟨rfl, rfl⟩
theorem sign_3 (w : World) : Calls Tryd.prog 60 #[.int .i64 3] w fun e w' => e = .returned (.int .u8 58) ∧ w = w' := by
  go_enter Tryd.func60, Tryd.ntmps60
  go_wp2_with fail
  go_ret
  exact ⟨rfl, rfl⟩
theorem sign_7 (w : World) : Calls Tryd.prog 60 #[.int .i64 7] w fun e w' => e = .returned (.int .u8 42) ∧ w = w' := by
  go_enter Tryd.func60, Tryd.ntmps60
  go_wp2_with fail
  go_ret
  exact ⟨rfl, rfl⟩
theorem sign_5b (w : World) : Calls Tryd.prog 60 #[.int .i64 5] w fun e w' => e = .returned (.int .u8 36) ∧ w = w' := by
  go_enter Tryd.func60, Tryd.ntmps60
  go_wp2_with fail
  go_ret
  exact ⟨rfl, rfl⟩
set_option maxHeartbeats 4000000 in
theorem lay_text1 (s : ByteArray) (la : Option Addr) (lc base : Nat) (v : Value) (l : List UInt8) (w : World) (hb : base ≤ w.heap.size) (ho : Mm.OwnB w base v l) (hl : l.length ≤ 1099511627776) (hs : s.size ≤ 1099511627776) :
    Calls Tryd.prog 48 #[v, .agg #[.int .i64 1, .string s, .int .i64 0, .slice la 0 lc]] w fun e w' => ∃ v', e = .returned v' ∧ Mm.OwnB w' base v' (l ++ ([43] ++ Pl.L s ++ Pl.crlf)) ∧ Below base w w' ∧ Mm.NB w w' := by
  obtain ⟨p, hp⟩ : ∃ p, p = w.heap.size := ⟨_, rfl⟩
  obtain ⟨w0, hw0⟩ : ∃ w0, w0 = w.alloc (.cells #[.int .i64 1, .string s, .int .i64 0, .slice la 0 lc] 31) := ⟨_, rfl⟩
  have HP0 : Hid (w0.heap[p]? = some (.cells #[.int .i64 1, .string s, .int .i64 0, .slice la 0 lc] 31 (0, 0))) := by
    show _ = _
    rw [hw0, hp]
    exact heap_alloc_new w _
  have HB0 : Hid (Below w.heap.size w w0) := by rw [hw0]; exact (Below.refl _ _).alloc (Nat.le_refl _) _
  have HS0 : Hid (w0.heap.size = w.heap.size + 1) := by show _ = _; rw [hw0]; simp
  have hnu : ¬ Mm.isU8 (.cells #[.int .i64 1, .string s, .int .i64 0, .slice la 0 lc] 31 (0, 0)) := by
    rintro ⟨cs, fr, e⟩
    injection e with _ e _
    exact absurd e (by decide)
  have HK : Hid (∀ V, Mm.NB w0 V → V.cell? ⟨p, 0, none⟩ = some (.int .i64 1) ∧ V.cell? ⟨p, 1, none⟩ = some (.string s) ∧ V.cell? ⟨p, 2, none⟩ = some (.int .i64 0)) := fun V hV => by
    have h := hV p _ HP0.out hnu
    exact ⟨Mm.cellOf h rfl, Mm.cellOf h rfl, Mm.cellOf h rfl⟩
  have HO0 : Hid (Mm.OwnB w0 base v l) := ho.keep fun g hg => HB0.out.block g (ho.lt g hg).2
  have hb0 : base ≤ w0.heap.size := by rw [HS0.out]; omega
  have HBB := Pl.hid hb
  obtain ⟨k0, k1, k2⟩ := HK.out w0 (Mm.NB.refl _)
  have HW0eq := Pl.hid hw0
  have HPeq := Pl.hid hp
  have HLs := Pl.hid (Pl.L_length s)
  have HE1 : Hid ((l ++ [43]).length ≤ 1099511627777) := by show (l ++ [43]).length ≤ _; simp; omega
  have HE2 : Hid ((l ++ [43] ++ Pl.L s).length ≤ 2199023255553) := by show (l ++ [43] ++ Pl.L s).length ≤ _; simp [Pl.L_length]; omega
  clear hw0 hp hnu ho
  go_enter Tryd.func48, Tryd.ntmps48
  go_wp2_with fail
  rw [← HW0eq.out, ← HPeq.out]
  refine (sign_1 w0).mono ?_
  rintro e w0' ⟨rfl, rfl⟩
  go_wp2_with (first
    | (at_builtin; refine Mm.wp_app1N w0 rfl _ _ (by rfl) base v l 43 (by rfl) (by rfl) HO0.out (by omega) hb0 ?_; intro v1 w1 ho1 hb1 hn1; have HO1 := Pl.hid ho1; have HB1 := Pl.hid hb1; have HN1 := Pl.hid hn1; clear ho1 hb1 hn1 k0 k1 k2; obtain ⟨k0, k1, k2⟩ := HK.out w1 HN1.out; have hb1s := Nat.le_trans hb0 HB1.out.size)
    | (at_builtin; refine Mm.wp_appSN w1 rfl _ _ (by rfl) base v1 _ s (by rfl) (by rfl) HO1.out (by have := HE1.out; omega) hb1s ?_; intro v3 w3 ho3 hb3 hn3; have HO3 := Pl.hid ho3; have HB3 := Pl.hid (HB1.out.trans hb3); have HN3 := Pl.hid (HN1.out.trans hn3); clear ho3 hb3 hn3; have hb3s := Nat.le_trans hb0 HB3.out.size)
    | (at_builtin; refine Mm.wp_appSN w3 rfl _ _ (by rfl) base v3 _ ⟨#[13, 10]⟩ (by rfl) (by rfl) HO3.out (by have := HE2.out; have : (⟨#[13, 10]⟩ : ByteArray).size = 2 := rfl; omega) hb3s ?_; intro v4 w4 ho4 hb4 hn4; have HO4 := Pl.hid ho4; have HB4 := Pl.hid (HB3.out.trans hb4); have HN4 := Pl.hid (HN3.out.trans hn4); clear ho4 hb4 hn4; have hb4s := Nat.le_trans hb0 HB4.out.size))
  go_ret
  refine ⟨v4, rfl, ?_, (HB0.out.mono HBB.out).trans HB4.out, (Mm.NB.below HB0.out).trans HN4.out⟩
  have h := HO4.out
  rw [show (⟨#[13, 10]⟩ : ByteArray) = Pl.B Pl.crlf from rfl, Pl.L_B] at h
  simpa using h
set_option maxHeartbeats 4000000 in
theorem lay_text2 (s : ByteArray) (la : Option Addr) (lc base : Nat) (v : Value) (l : List UInt8) (w : World) (hb : base ≤ w.heap.size) (ho : Mm.OwnB w base v l) (hl : l.length ≤ 1099511627776) (hs : s.size ≤ 1099511627776) :
    Calls Tryd.prog 48 #[v, .agg #[.int .i64 2, .string s, .int .i64 0, .slice la 0 lc]] w fun e w' => ∃ v', e = .returned v' ∧ Mm.OwnB w' base v' (l ++ ([45] ++ Pl.L s ++ Pl.crlf)) ∧ Below base w w' ∧ Mm.NB w w' := by
  obtain ⟨p, hp⟩ : ∃ p, p = w.heap.size := ⟨_, rfl⟩
  obtain ⟨w0, hw0⟩ : ∃ w0, w0 = w.alloc (.cells #[.int .i64 2, .string s, .int .i64 0, .slice la 0 lc] 31) := ⟨_, rfl⟩
  have HP0 : Hid (w0.heap[p]? = some (.cells #[.int .i64 2, .string s, .int .i64 0, .slice la 0 lc] 31 (0, 0))) := by
    show _ = _
    rw [hw0, hp]
    exact heap_alloc_new w _
  have HB0 : Hid (Below w.heap.size w w0) := by rw [hw0]; exact (Below.refl _ _).alloc (Nat.le_refl _) _
  have HS0 : Hid (w0.heap.size = w.heap.size + 1) := by show _ = _; rw [hw0]; simp
  have hnu : ¬ Mm.isU8 (.cells #[.int .i64 2, .string s, .int .i64 0, .slice la 0 lc] 31 (0, 0)) := by
    rintro ⟨cs, fr, e⟩
    injection e with _ e _
    exact absurd e (by decide)
  have HK : Hid (∀ V, Mm.NB w0 V → V.cell? ⟨p, 0, none⟩ = some (.int .i64 2) ∧ V.cell? ⟨p, 1, none⟩ = some (.string s) ∧ V.cell? ⟨p, 2, none⟩ = some (.int .i64 0)) := fun V hV => by
    have h := hV p _ HP0.out hnu
    exact ⟨Mm.cellOf h rfl, Mm.cellOf h rfl, Mm.cellOf h rfl⟩
  have HO0 : Hid (Mm.OwnB w0 base v l) := ho.keep fun g hg => HB0.out.block g (ho.lt g hg).2
  have hb0 : base ≤ w0.heap.size := by rw [HS0.out]; omega
  have HBB := Pl.hid hb
  obtain ⟨k0, k1, k2⟩ := HK.out w0 (Mm.NB.refl _)
  have HW0eq := Pl.hid hw0
  have HPeq := Pl.hid hp
  have HLs := Pl.hid (Pl.L_length s)
  have HE1 : Hid ((l ++ [45]).length ≤ 1099511627777) := by show (l ++ [45]).length ≤ _; simp; omega
  have HE2 : Hid ((l ++ [45] ++ Pl.L s).length ≤ 2199023255553) := by show (l ++ [45] ++ Pl.L s).length ≤ _; simp [Pl.L_length]; omega
  clear hw0 hp hnu ho
  go_enter Tryd.func48, Tryd.ntmps48
  go_wp2_with fail
  rw [← HW0eq.out, ← HPeq.out]
  refine (sign_2 w0).mono ?_
  rintro e w0' ⟨rfl, rfl⟩
  go_wp2_with (first
    | (at_builtin; refine Mm.wp_app1N w0 rfl _ _ (by rfl) base v l 45 (by rfl) (by rfl) HO0.out (by omega) hb0 ?_; intro v1 w1 ho1 hb1 hn1; have HO1 := Pl.hid ho1; have HB1 := Pl.hid hb1; have HN1 := Pl.hid hn1; clear ho1 hb1 hn1 k0 k1 k2; obtain ⟨k0, k1, k2⟩ := HK.out w1 HN1.out; have hb1s := Nat.le_trans hb0 HB1.out.size)
    | (at_builtin; refine Mm.wp_appSN w1 rfl _ _ (by rfl) base v1 _ s (by rfl) (by rfl) HO1.out (by have := HE1.out; omega) hb1s ?_; intro v3 w3 ho3 hb3 hn3; have HO3 := Pl.hid ho3; have HB3 := Pl.hid (HB1.out.trans hb3); have HN3 := Pl.hid (HN1.out.trans hn3); clear ho3 hb3 hn3; have hb3s := Nat.le_trans hb0 HB3.out.size)
    | (at_builtin; refine Mm.wp_appSN w3 rfl _ _ (by rfl) base v3 _ ⟨#[13, 10]⟩ (by rfl) (by rfl) HO3.out (by have := HE2.out; have : (⟨#[13, 10]⟩ : ByteArray).size = 2 := rfl; omega) hb3s ?_; intro v4 w4 ho4 hb4 hn4; have HO4 := Pl.hid ho4; have HB4 := Pl.hid (HB3.out.trans hb4); have HN4 := Pl.hid (HN3.out.trans hn4); clear ho4 hb4 hn4; have hb4s := Nat.le_trans hb0 HB4.out.size))
  go_ret
  refine ⟨v4, rfl, ?_, (HB0.out.mono HBB.out).trans HB4.out, (Mm.NB.below HB0.out).trans HN4.out⟩
  have h := HO4.out
  rw [show (⟨#[13, 10]⟩ : ByteArray) = Pl.B Pl.crlf from rfl, Pl.L_B] at h
  simpa using h
set_option maxHeartbeats 4000000 in
theorem lay_int (s : ByteArray) (n : Int) (hn : Pl.In64 n) (la : Option Addr) (lc base : Nat) (v : Value) (l : List UInt8) (W w : World) (hT : Mm.Tab W) (hW : Below W.heap.size W w) (hWb : W.heap.size ≤ base) (hb : base ≤ w.heap.size) (ho : Mm.OwnB w base v l) (hl : l.length ≤ 1099511627776) :
    Calls Tryd.prog 48 #[v, .agg #[.int .i64 3, .string s, .int .i64 n, .slice la 0 lc]] w fun e w' => ∃ v', e = .returned v' ∧ Mm.OwnB w' base v' (l ++ ([58] ++ Lib.itoa n ++ Pl.crlf)) ∧ Below base w w' ∧ Mm.NB w w' := by
  obtain ⟨p, hp⟩ : ∃ p, p = w.heap.size := ⟨_, rfl⟩
  obtain ⟨w0, hw0⟩ : ∃ w0, w0 = w.alloc (.cells #[.int .i64 3, .string s, .int .i64 n, .slice la 0 lc] 31) := ⟨_, rfl⟩
  have HP0 : Hid (w0.heap[p]? = some (.cells #[.int .i64 3, .string s, .int .i64 n, .slice la 0 lc] 31 (0, 0))) := by
    show _ = _
    rw [hw0, hp]
    exact heap_alloc_new w _
  have HB0 : Hid (Below w.heap.size w w0) := by rw [hw0]; exact (Below.refl _ _).alloc (Nat.le_refl _) _
  have HS0 : Hid (w0.heap.size = w.heap.size + 1) := by show _ = _; rw [hw0]; simp
  have hnu : ¬ Mm.isU8 (.cells #[.int .i64 3, .string s, .int .i64 n, .slice la 0 lc] 31 (0, 0)) := by
    rintro ⟨cs, fr, e⟩
    injection e with _ e _
    exact absurd e (by decide)
  have HK : Hid (∀ V, Mm.NB w0 V → V.cell? ⟨p, 0, none⟩ = some (.int .i64 3) ∧ V.cell? ⟨p, 1, none⟩ = some (.string s) ∧ V.cell? ⟨p, 2, none⟩ = some (.int .i64 n)) := fun V hV => by
    have h := hV p _ HP0.out hnu
    exact ⟨Mm.cellOf h rfl, Mm.cellOf h rfl, Mm.cellOf h rfl⟩
  have HO0 : Hid (Mm.OwnB w0 base v l) := ho.keep fun g hg => HB0.out.block g (ho.lt g hg).2
  have hb0 : base ≤ w0.heap.size := by rw [HS0.out]; omega
  have HBB := Pl.hid hb
  obtain ⟨k0, k1, k2⟩ := HK.out w0 (Mm.NB.refl _)
  have HW0eq := Pl.hid hw0
  have HPeq := Pl.hid hp
  obtain ⟨TX, hTX⟩ : ∃ TX, TX = Pl.B (Lib.itoa n) := ⟨_, rfl⟩
  have hTs : TX.size ≤ 21 := by rw [hTX, Pl.B_size]; exact Pl.itoa_le _ hn
  have HTX := Pl.hid hTX
  have HTW := Pl.hid (fun w' (hw' : Mm.Tab w') => text_walk n w' hn hw')
  rw [← hTX] at HTW
  have HW := Pl.hid hW
  have HT := Pl.hid hT
  have HWb := Pl.hid hWb
  have HE1 : Hid ((l ++ [58]).length ≤ 1099511627777) := by show (l ++ [58]).length ≤ _; simp; omega
  have HE2 : Hid ((l ++ [58] ++ Pl.L TX).length ≤ 2199023255553) := by show (l ++ [58] ++ Pl.L TX).length ≤ _; simp [Pl.L_length]; omega
  clear hw0 hp hnu ho hT hW hTX hn
  go_enter Tryd.func48, Tryd.ntmps48
  go_wp2_with fail
  rw [← HW0eq.out, ← HPeq.out]
  refine (sign_3 w0).mono ?_
  rintro e w0' ⟨rfl, rfl⟩
  go_wp2_with (at_builtin; refine Mm.wp_app1N w0 rfl _ _ (by rfl) base v l 58 (by rfl) (by rfl) HO0.out (by omega) hb0 ?_; intro v1 w1 ho1 hb1 hn1; have HO1 := Pl.hid ho1; have HB1 := Pl.hid hb1; have HN1 := Pl.hid hn1; clear ho1 hb1 hn1 k0 k1 k2; obtain ⟨k0, k1, k2⟩ := HK.out w1 HN1.out; have hb1s := Nat.le_trans hb0 HB1.out.size)
  have HW1 : Hid (Below W.heap.size W w1) := HW.out.trans (((HB0.out.mono HBB.out).trans HB1.out).mono HWb.out)
  refine (HTW.out w1 (HT.out.on HW1.out)).mono ?_
  rintro e w2 ⟨rfl, hb2⟩
  have HN2 := Pl.hid (HN1.out.trans (Mm.NB.below hb2))
  have HB2 := Pl.hid (HB1.out.trans (hb2.mono (Nat.le_trans hb0 HB1.out.size)))
  have HO2 : Hid (Mm.OwnB w2 base v1 (l ++ [58])) := HO1.out.keep fun g hg => hb2.block g (HO1.out.lt g hg).2
  clear hb2 k0 k1 k2
  obtain ⟨k0, k1, k2⟩ := HK.out w2 HN2.out
  have hb2s : base ≤ w2.heap.size := Nat.le_trans hb0 HB2.out.size
  go_wp2_with (first
    | (at_builtin; refine Mm.wp_appSN w2 rfl _ _ (by rfl) base v1 _ TX (by rfl) (by rfl) HO2.out (by have := HE1.out; omega) hb2s ?_; intro v3 w3 ho3 hb3 hn3; have HO3 := Pl.hid ho3; have HB3 := Pl.hid (HB2.out.trans hb3); have HN3 := Pl.hid (HN2.out.trans hn3); clear ho3 hb3 hn3; have hb3s := Nat.le_trans hb0 HB3.out.size)
    | (at_builtin; refine Mm.wp_appSN w3 rfl _ _ (by rfl) base v3 _ ⟨#[13, 10]⟩ (by rfl) (by rfl) HO3.out (by have := HE2.out; have : (⟨#[13, 10]⟩ : ByteArray).size = 2 := rfl; omega) hb3s ?_; intro v4 w4 ho4 hb4 hn4; have HO4 := Pl.hid ho4; have HB4 := Pl.hid (HB3.out.trans hb4); have HN4 := Pl.hid (HN3.out.trans hn4); clear ho4 hb4 hn4; have hb4s := Nat.le_trans hb0 HB4.out.size))
  go_ret
  refine ⟨v4, rfl, ?_, (HB0.out.mono HBB.out).trans HB4.out, (Mm.NB.below HB0.out).trans HN4.out⟩
  have h := HO4.out
  rw [HTX.out, show (⟨#[13, 10]⟩ : ByteArray) = Pl.B Pl.crlf from rfl, Pl.L_B, Pl.L_B] at h
  simpa using h
set_option maxHeartbeats 4000000 in
theorem lay_neg5 (s : ByteArray) (la : Option Addr) (lc base : Nat) (v : Value) (l : List UInt8) (w : World) (hb : base ≤ w.heap.size) (ho : Mm.OwnB w base v l) (hl : l.length ≤ 1099511627776) :
    Calls Tryd.prog 48 #[v, .agg #[.int .i64 5, .string s, .int .i64 0, .slice la 0 lc]] w fun e w' => ∃ v', e = .returned v' ∧ Mm.OwnB w' base v' (l ++ [36, 45, 49, 13, 10]) ∧ Below base w w' ∧ Mm.NB w w' := by
  obtain ⟨p, hp⟩ : ∃ p, p = w.heap.size := ⟨_, rfl⟩
  obtain ⟨w0, hw0⟩ : ∃ w0, w0 = w.alloc (.cells #[.int .i64 5, .string s, .int .i64 0, .slice la 0 lc] 31) := ⟨_, rfl⟩
  have HP0 : Hid (w0.heap[p]? = some (.cells #[.int .i64 5, .string s, .int .i64 0, .slice la 0 lc] 31 (0, 0))) := by
    show _ = _
    rw [hw0, hp]
    exact heap_alloc_new w _
  have HB0 : Hid (Below w.heap.size w w0) := by rw [hw0]; exact (Below.refl _ _).alloc (Nat.le_refl _) _
  have HS0 : Hid (w0.heap.size = w.heap.size + 1) := by show _ = _; rw [hw0]; simp
  have hnu : ¬ Mm.isU8 (.cells #[.int .i64 5, .string s, .int .i64 0, .slice la 0 lc] 31 (0, 0)) := by
    rintro ⟨cs, fr, e⟩
    injection e with _ e _
    exact absurd e (by decide)
  have HK : Hid (∀ V, Mm.NB w0 V → V.cell? ⟨p, 0, none⟩ = some (.int .i64 5) ∧ V.cell? ⟨p, 1, none⟩ = some (.string s) ∧ V.cell? ⟨p, 2, none⟩ = some (.int .i64 0)) := fun V hV => by
    have h := hV p _ HP0.out hnu
    exact ⟨Mm.cellOf h rfl, Mm.cellOf h rfl, Mm.cellOf h rfl⟩
  have HO0 : Hid (Mm.OwnB w0 base v l) := ho.keep fun g hg => HB0.out.block g (ho.lt g hg).2
  have hb0 : base ≤ w0.heap.size := by rw [HS0.out]; omega
  have HBB := Pl.hid hb
  obtain ⟨k0, k1, k2⟩ := HK.out w0 (Mm.NB.refl _)
  have HW0eq := Pl.hid hw0
  have HPeq := Pl.hid hp
  have HE1 : Hid ((l ++ [36]).length ≤ 1099511627777) := by show (l ++ [36]).length ≤ _; simp; omega
  have HE2 : Hid ((l ++ [36] ++ Pl.L ⟨#[45, 49]⟩).length ≤ 2199023255553) := by show (l ++ [36] ++ [45, 49]).length ≤ 2199023255553; simp; omega
  clear hw0 hp hnu ho
  go_enter Tryd.func48, Tryd.ntmps48
  go_wp2_with fail
  rw [← HW0eq.out, ← HPeq.out]
  refine (sign_5b w0).mono ?_
  rintro e w0' ⟨rfl, rfl⟩
  go_wp2_with (first
    | (at_builtin; refine Mm.wp_app1N w0 rfl _ _ (by rfl) base v l 36 (by rfl) (by rfl) HO0.out (by omega) hb0 ?_; intro v1 w1 ho1 hb1 hn1; have HO1 := Pl.hid ho1; have HB1 := Pl.hid hb1; have HN1 := Pl.hid hn1; clear ho1 hb1 hn1 k0 k1 k2; obtain ⟨k0, k1, k2⟩ := HK.out w1 HN1.out; have hb1s := Nat.le_trans hb0 HB1.out.size)
    | (at_builtin; refine Mm.wp_appSN w1 rfl _ _ (by rfl) base v1 _ ⟨#[45, 49]⟩ (by rfl) (by rfl) HO1.out (by have := HE1.out; have : (⟨#[45, 49]⟩ : ByteArray).size = 2 := rfl; omega) hb1s ?_; intro v3 w3 ho3 hb3 hn3; have HO3 := Pl.hid ho3; have HB3 := Pl.hid (HB1.out.trans hb3); have HN3 := Pl.hid (HN1.out.trans hn3); clear ho3 hb3 hn3; have hb3s := Nat.le_trans hb0 HB3.out.size)
    | (at_builtin; refine Mm.wp_appSN w3 rfl _ _ (by rfl) base v3 _ ⟨#[13, 10]⟩ (by rfl) (by rfl) HO3.out (by have := HE2.out; have : (⟨#[13, 10]⟩ : ByteArray).size = 2 := rfl; omega) hb3s ?_; intro v4 w4 ho4 hb4 hn4; have HO4 := Pl.hid ho4; have HB4 := Pl.hid (HB3.out.trans hb4); have HN4 := Pl.hid (HN3.out.trans hn4); clear ho4 hb4 hn4; have hb4s := Nat.le_trans hb0 HB4.out.size))
  go_ret
  refine ⟨v4, rfl, ?_, (HB0.out.mono HBB.out).trans HB4.out, (Mm.NB.below HB0.out).trans HN4.out⟩
  have h := HO4.out
  rw [show (⟨#[13, 10]⟩ : ByteArray) = Pl.B Pl.crlf from rfl, show (⟨#[45, 49]⟩ : ByteArray) = Pl.B [45, 49] from rfl, Pl.L_B, Pl.L_B] at h
  simpa [Pl.crlf] using h
set_option maxHeartbeats 4000000 in
theorem lay_neg7 (s : ByteArray) (la : Option Addr) (lc base : Nat) (v : Value) (l : List UInt8) (w : World) (hb : base ≤ w.heap.size) (ho : Mm.OwnB w base v l) (hl : l.length ≤ 1099511627776) :
    Calls Tryd.prog 48 #[v, .agg #[.int .i64 7, .string s, .int .i64 0, .slice la 0 lc]] w fun e w' => ∃ v', e = .returned v' ∧ Mm.OwnB w' base v' (l ++ [42, 45, 49, 13, 10]) ∧ Below base w w' ∧ Mm.NB w w' := by
  obtain ⟨p, hp⟩ : ∃ p, p = w.heap.size := ⟨_, rfl⟩
  obtain ⟨w0, hw0⟩ : ∃ w0, w0 = w.alloc (.cells #[.int .i64 7, .string s, .int .i64 0, .slice la 0 lc] 31) := ⟨_, rfl⟩
  have HP0 : Hid (w0.heap[p]? = some (.cells #[.int .i64 7, .string s, .int .i64 0, .slice la 0 lc] 31 (0, 0))) := by
    show _ = _
    rw [hw0, hp]
    exact heap_alloc_new w _
  have HB0 : Hid (Below w.heap.size w w0) := by rw [hw0]; exact (Below.refl _ _).alloc (Nat.le_refl _) _
  have HS0 : Hid (w0.heap.size = w.heap.size + 1) := by show _ = _; rw [hw0]; simp
  have hnu : ¬ Mm.isU8 (.cells #[.int .i64 7, .string s, .int .i64 0, .slice la 0 lc] 31 (0, 0)) := by
    rintro ⟨cs, fr, e⟩
    injection e with _ e _
    exact absurd e (by decide)
  have HK : Hid (∀ V, Mm.NB w0 V → V.cell? ⟨p, 0, none⟩ = some (.int .i64 7) ∧ V.cell? ⟨p, 1, none⟩ = some (.string s) ∧ V.cell? ⟨p, 2, none⟩ = some (.int .i64 0)) := fun V hV => by
    have h := hV p _ HP0.out hnu
    exact ⟨Mm.cellOf h rfl, Mm.cellOf h rfl, Mm.cellOf h rfl⟩
  have HO0 : Hid (Mm.OwnB w0 base v l) := ho.keep fun g hg => HB0.out.block g (ho.lt g hg).2
  have hb0 : base ≤ w0.heap.size := by rw [HS0.out]; omega
  have HBB := Pl.hid hb
  obtain ⟨k0, k1, k2⟩ := HK.out w0 (Mm.NB.refl _)
  have HW0eq := Pl.hid hw0
  have HPeq := Pl.hid hp
  have HE1 : Hid ((l ++ [42]).length ≤ 1099511627777) := by show (l ++ [42]).length ≤ _; simp; omega
  have HE2 : Hid ((l ++ [42] ++ Pl.L ⟨#[45, 49]⟩).length ≤ 2199023255553) := by show (l ++ [42] ++ [45, 49]).length ≤ 2199023255553; simp; omega
  clear hw0 hp hnu ho
  go_enter Tryd.func48, Tryd.ntmps48
  go_wp2_with fail
  rw [← HW0eq.out, ← HPeq.out]
  refine (sign_7 w0).mono ?_
  rintro e w0' ⟨rfl, rfl⟩
  go_wp2_with (first
    | (at_builtin; refine Mm.wp_app1N w0 rfl _ _ (by rfl) base v l 42 (by rfl) (by rfl) HO0.out (by omega) hb0 ?_; intro v1 w1 ho1 hb1 hn1; have HO1 := Pl.hid ho1; have HB1 := Pl.hid hb1; have HN1 := Pl.hid hn1; clear ho1 hb1 hn1 k0 k1 k2; obtain ⟨k0, k1, k2⟩ := HK.out w1 HN1.out; have hb1s := Nat.le_trans hb0 HB1.out.size)
    | (at_builtin; refine Mm.wp_appSN w1 rfl _ _ (by rfl) base v1 _ ⟨#[45, 49]⟩ (by rfl) (by rfl) HO1.out (by have := HE1.out; have : (⟨#[45, 49]⟩ : ByteArray).size = 2 := rfl; omega) hb1s ?_; intro v3 w3 ho3 hb3 hn3; have HO3 := Pl.hid ho3; have HB3 := Pl.hid (HB1.out.trans hb3); have HN3 := Pl.hid (HN1.out.trans hn3); clear ho3 hb3 hn3; have hb3s := Nat.le_trans hb0 HB3.out.size)
    | (at_builtin; refine Mm.wp_appSN w3 rfl _ _ (by rfl) base v3 _ ⟨#[13, 10]⟩ (by rfl) (by rfl) HO3.out (by have := HE2.out; have : (⟨#[13, 10]⟩ : ByteArray).size = 2 := rfl; omega) hb3s ?_; intro v4 w4 ho4 hb4 hn4; have HO4 := Pl.hid ho4; have HB4 := Pl.hid (HB3.out.trans hb4); have HN4 := Pl.hid (HN3.out.trans hn4); clear ho4 hb4 hn4; have hb4s := Nat.le_trans hb0 HB4.out.size))
  go_ret
  refine ⟨v4, rfl, ?_, (HB0.out.mono HBB.out).trans HB4.out, (Mm.NB.below HB0.out).trans HN4.out⟩
  have h := HO4.out
  rw [show (⟨#[13, 10]⟩ : ByteArray) = Pl.B Pl.crlf from rfl, show (⟨#[45, 49]⟩ : ByteArray) = Pl.B [45, 49] from rfl, Pl.L_B, Pl.L_B] at h
  simpa [Pl.crlf] using h
end Go.Proofs.YtakldjdohgmeiaaDoor

namespace Go.Proofs.YtakldjdohgmeiaaDoor
open Go.RowKit
set_option maxRecDepth 20000

namespace RT
open Pl
/-- a reply's fields, alone: may they be? -/
def okHead (k : Int) (s : ByteArray) (n : Int) (ln : Nat) : Bool :=
  ((k == 1 || k == 2) && noEnd (L s) && n == 0 && ln == 0) || (k == 3 && s.size == 0 && ln == 0) || (k == 4 && n == 0 && ln == 0) || ((k == 5 || k == 7) && s.size == 0 && n == 0 && ln == 0) || (k == 6 && s.size == 0 && n == 0)
mutual
/-- a reply, and all within it, may be -/
def ok : RT → Bool
  | .mk k s n l => okHead k s n l.length && okL l
def okL : List RT → Bool
  | [] => true
  | t :: ts => ok t && okL ts
end
mutual
def depth : RT → Nat
  | .mk k _ _ l => if k = 6 then depthL l + 1 else 0
def depthL : List RT → Nat
  | [] => 0
  | t :: ts => max (depth t) (depthL ts)
end
/-- the numbers of a reply are numbers of 64 bits -/
inductive In : RT → Prop
  | mk (k : Int) (s : ByteArray) (n : Int) (l : List RT) (hn : In64 n) (hl : ∀ t ∈ l, In t) : In (.mk k s n l)
theorem In.num {k : Int} {s : ByteArray} {n : Int} {l : List RT} (h : In (.mk k s n l)) : In64 n := by cases h; assumption
theorem In.list {k : Int} {s : ByteArray} {n : Int} {l : List RT} (h : In (.mk k s n l)) : ∀ t ∈ l, In t := by cases h; assumption
/-- a reply's head: what stands ahead of its list -/
def encH (k : Int) (s : ByteArray) (n : Int) (ln : Nat) : List UInt8 :=
  if k = 1 then [43] ++ L s ++ crlf else if k = 2 then [45] ++ L s ++ crlf else if k = 3 then [58] ++ Lib.itoa n ++ crlf else if k = 4 then bulkE (L s)
  else if k = 5 then [36, 45, 49, 13, 10] else if k = 7 then [42, 45, 49, 13, 10] else [42] ++ Lib.decDigits ln ++ crlf
mutual
/-- the bytes of a reply -/
def enc : RT → List UInt8
  | .mk k s n l => encH k s n l.length ++ encL l
def encL : List RT → List UInt8
  | [] => []
  | t :: ts => enc t ++ encL ts
end
theorem ok_mk (k : Int) (s : ByteArray) (n : Int) (l : List RT) : ok (.mk k s n l) = (okHead k s n l.length && okL l) := by simp [ok]
theorem okL_iff : ∀ l : List RT, okL l = true ↔ ∀ t ∈ l, ok t = true
  | [] => by simp [okL]
  | t :: ts => by simp [okL, okL_iff ts]
theorem okL_all : ∀ l : List RT, okL l = l.all ok
  | [] => by simp [okL]
  | t :: ts => by simp [okL, okL_all ts]
theorem enc_mk (k : Int) (s : ByteArray) (n : Int) (l : List RT) : enc (.mk k s n l) = encH k s n l.length ++ encL l := by simp [enc]
theorem encL_append : ∀ (a b : List RT), encL (a ++ b) = encL a ++ encL b
  | [], b => by simp [encL]
  | x :: a, b => by simp [encL, encL_append a b]
theorem encL_take (l : List RT) (i : Nat) (h : i < l.length) : encL (l.take (i + 1)) = encL (l.take i) ++ enc (l[i]'h) := by
  have e : l.take (i + 1) = l.take i ++ [l[i]'h] := by rw [List.take_add_one, List.getElem?_eq_getElem h]; rfl
  have e2 : encL [l[i]'h] = enc (l[i]'h) := by simp [encL]
  rw [e, encL_append, e2]
theorem encL_split (l : List RT) (i : Nat) : encL l = encL (l.take i) ++ encL (l.drop i) := by
  conv => lhs; rw [← List.take_append_drop i l]
  exact encL_append _ _
theorem encL_le (l : List RT) (i : Nat) : (encL (l.take i)).length ≤ (encL l).length := by
  rw [encL_split l i, List.length_append]
  omega
theorem depth_mk (k : Int) (s : ByteArray) (n : Int) (l : List RT) : depth (.mk k s n l) = if k = 6 then depthL l + 1 else 0 := by simp [depth]
theorem encH_le (k : Int) (s : ByteArray) (n : Int) (ln : Nat) (hs : s.size ≤ 9223372036854775807) (hn : In64 n) (hl : ln ≤ 9223372036854775807) : (encH k s n ln).length ≤ s.size + 26 := by
  have h1 := itoa_le n hn
  have h2 := dec_len ln hl
  have h3 := bulkE_len (L s) (by rw [L_length]; exact hs)
  rw [L_length] at h3
  unfold encH
  (repeat' split) <;> (try simp only [List.length_append, List.length_cons, List.length_nil, crlf, L_length]) <;> omega
end RT

namespace RT
open Pl
/-- what a head tells that may be -/
theorem okHead_cases {k : Int} {s : ByteArray} {n : Int} {ln : Nat} (h : okHead k s n ln = true) :
    (k = 1 ∧ noEnd (L s) = true ∧ n = 0 ∧ ln = 0) ∨ (k = 2 ∧ noEnd (L s) = true ∧ n = 0 ∧ ln = 0) ∨ (k = 3 ∧ s = ⟨#[]⟩ ∧ ln = 0) ∨ (k = 4 ∧ n = 0 ∧ ln = 0) ∨ (k = 5 ∧ s = ⟨#[]⟩ ∧ n = 0 ∧ ln = 0) ∨ (k = 7 ∧ s = ⟨#[]⟩ ∧ n = 0 ∧ ln = 0) ∨ (k = 6 ∧ s = ⟨#[]⟩ ∧ n = 0) := by
  have hs : s.size = 0 → s = ⟨#[]⟩ := fun h => by
    obtain ⟨⟨l⟩⟩ := s
    cases l with
    | nil => rfl
    | cons a l => exact absurd h (by show (a :: l).length ≠ 0; simp)
  unfold okHead at h
  simp only [Bool.or_eq_true, Bool.and_eq_true, beq_iff_eq] at h
  rcases h with (((⟨⟨⟨h1 | h1, h2⟩, h3⟩, h4⟩ | ⟨⟨h1, h2⟩, h3⟩) | ⟨⟨h1, h2⟩, h3⟩) | ⟨⟨⟨h1 | h1, h2⟩, h3⟩, h4⟩) | ⟨⟨h1, h2⟩, h3⟩
  · exact .inl ⟨h1, h2, h3, h4⟩
  · exact .inr (.inl ⟨h1, h2, h3, h4⟩)
  · exact .inr (.inr (.inl ⟨h1, hs h2, h3⟩))
  · exact .inr (.inr (.inr (.inl ⟨h1, h2, h3⟩)))
  · exact .inr (.inr (.inr (.inr (.inl ⟨h1, hs h2, h3, h4⟩))))
  · exact .inr (.inr (.inr (.inr (.inr (.inl ⟨h1, hs h2, h3, h4⟩)))))
  · exact .inr (.inr (.inr (.inr (.inr (.inr ⟨h1, hs h2, h3⟩)))))
end RT

set_option maxHeartbeats 8000000 in
theorem lay_walk (W : World) (hT : Mm.Tab W) : ∀ (t : RT), t.ok = true → t.In → t.sz ≤ 1073741824 → ∀ (c0 c1 c2 c3 : Value), Mm.RepX W t [c0, c1, c2, c3] → ∀ (base : Nat) (v : Value) (l : List UInt8) (w : World), Below W.heap.size W w → W.heap.size ≤ base → base ≤ w.heap.size → Mm.OwnB w base v l →
    l.length + t.enc.length ≤ 1099511627776 →
    Calls Tryd.prog 48 #[v, .agg #[c0, c1, c2, c3]] w fun e w' => ∃ v', e = .returned v' ∧ Mm.OwnB w' base v' (l ++ t.enc) ∧ Below base w w' ∧ Mm.NB w w' := by
  intro t
  induction t using RT.ind with
  | h k s nn ts ih =>
  intro hok hin hsz c0 c1 c2 c3 hX base v l w hW hWb hb ho hl
  obtain ⟨la, lc, hcs, hel⟩ := hX.open
  simp only [List.cons.injEq, and_true] at hcs
  obtain ⟨rfl, rfl, rfl, rfl⟩ := hcs
  rw [RT.ok_mk, Bool.and_eq_true] at hok
  rw [RT.enc_mk] at hl ⊢
  rw [RT.sz_mk] at hsz
  have hllen : l.length ≤ 1099511627776 := by omega
  have nilc : ts.length = 0 → RT.encL ts = [] := fun h => by rw [List.eq_nil_of_length_eq_zero h]; simp [RT.encL]
  rcases RT.okHead_cases hok.1 with ⟨rfl, h2, rfl, h4⟩ | ⟨rfl, h2, rfl, h4⟩ | ⟨rfl, h2, h4⟩ | ⟨rfl, rfl, h4⟩ | ⟨rfl, h2, rfl, h4⟩ | ⟨rfl, h2, rfl, h4⟩ | ⟨rfl, rfl, rfl⟩
  · rw [nilc h4, h4]
    refine (lay_text1 s la lc base v l w hb ho hllen (by omega)).mono ?_
    rintro e w' ⟨v', rfl, h1, h2, h3⟩
    exact ⟨v', rfl, by simpa [RT.encH] using h1, h2, h3⟩
  · rw [nilc h4, h4]
    refine (lay_text2 s la lc base v l w hb ho hllen (by omega)).mono ?_
    rintro e w' ⟨v', rfl, h1, h2, h3⟩
    exact ⟨v', rfl, by simpa [RT.encH] using h1, h2, h3⟩
  · rw [nilc h4, h4]
    refine (lay_int s nn hin.num la lc base v l W w hT hW hWb hb ho hllen).mono ?_
    rintro e w' ⟨v', rfl, h1, h2, h3⟩
    exact ⟨v', rfl, by simpa [RT.encH] using h1, h2, h3⟩
  · rw [nilc h4, h4]
    refine (lay_bulk s la lc base v l W w hT hW hWb hb ho hllen (by omega)).mono ?_
    rintro e w' ⟨v', rfl, h1, h2, h3⟩
    exact ⟨v', rfl, by simpa [RT.encH] using h1, h2, h3⟩
  · rw [nilc h4, h4]
    refine (lay_neg5 s la lc base v l w hb ho hllen).mono ?_
    rintro e w' ⟨v', rfl, h1, h2, h3⟩
    exact ⟨v', rfl, by simpa [RT.encH] using h1, h2, h3⟩
  · rw [nilc h4, h4]
    refine (lay_neg7 s la lc base v l w hb ho hllen).mono ?_
    rintro e w' ⟨v', rfl, h1, h2, h3⟩
    exact ⟨v', rfl, by simpa [RT.encH] using h1, h2, h3⟩
  obtain ⟨n, hnn⟩ : ∃ n, n = ts.length := ⟨_, rfl⟩
  have hel' : n = 0 ∨ ∃ b, la = some ⟨b, 0, none⟩ ∧ b < W.heap.size ∧ ∀ (i : Nat) (hi : i < ts.length), ∃ f0 f1 f2 f3, W.cell? ⟨b, i * 4, none⟩ = some f0 ∧ W.cell? ⟨b, i * 4 + 1, none⟩ = some f1 ∧ W.cell? ⟨b, i * 4 + 2, none⟩ = some f2 ∧ W.cell? ⟨b, i * 4 + 3, none⟩ = some f3 ∧ Mm.RepX W (ts[i]'hi) [f0, f1, f2, f3] := by
    rw [hnn]
    exact hel
  clear hel
  rw [← hnn]
  have hE : RT.encH 6 ⟨#[]⟩ 0 n = [42] ++ Lib.decDigits n ++ Pl.crlf := rfl
  rw [hE]
  rw [← hnn, hE] at hl
  obtain ⟨p, hp⟩ : ∃ p, p = w.heap.size := ⟨_, rfl⟩
  obtain ⟨w0, hw0⟩ : ∃ w0, w0 = w.alloc (.cells #[.int .i64 6, .string ⟨#[]⟩, .int .i64 0, .slice la n lc] 31) := ⟨_, rfl⟩
  have HP0 : Hid (w0.heap[p]? = some (.cells #[.int .i64 6, .string ⟨#[]⟩, .int .i64 0, .slice la n lc] 31 (0, 0))) := by
    show _ = _
    rw [hw0, hp]
    exact heap_alloc_new w _
  have HB0 : Hid (Below w.heap.size w w0) := by rw [hw0]; exact (Below.refl _ _).alloc (Nat.le_refl _) _
  have HS0 : Hid (w0.heap.size = w.heap.size + 1) := by show _ = _; rw [hw0]; simp
  have hnu : ¬ Mm.isU8 (.cells #[.int .i64 6, .string ⟨#[]⟩, .int .i64 0, .slice la n lc] 31 (0, 0)) := by
    rintro ⟨cs, fr, e⟩
    injection e with _ e _
    exact absurd e (by decide)
  have HK : Hid (∀ V, Mm.NB w0 V → V.cell? ⟨p, 0, none⟩ = some (.int .i64 6) ∧ V.cell? ⟨p, 3, none⟩ = some (.slice la n lc)) := fun V hV => by
    have h := hV p _ HP0.out hnu
    exact ⟨Mm.cellOf h rfl, Mm.cellOf h rfl⟩
  have HO0 : Hid (Mm.OwnB w0 base v l) := ho.keep fun g hg => HB0.out.block g (ho.lt g hg).2
  have HW := Pl.hid hW
  have HT := Pl.hid hT
  have HWb := Pl.hid hWb
  have hb0 : base ≤ w0.heap.size := by rw [HS0.out]; omega
  have HBB := Pl.hid hb
  have HEL := Pl.hid hel'
  have HNN := Pl.hid hnn
  have HLL := Pl.hid hl
  have HOK := Pl.hid ((RT.okL_iff ts).1 hok.2)
  have HIN := Pl.hid hin.list
  have IH := Pl.hid ih
  have HSZ : Hid (∀ t ∈ ts, t.sz ≤ 1073741824) := fun t ht => by have := RT.szL_mem ht; omega
  have hn' : n ≤ 1099511627776 := by have := RT.szL_len ts; omega
  obtain ⟨k0, k3⟩ := HK.out w0 (Mm.NB.refl _)
  have HW0eq := Pl.hid hw0
  have HPeq := Pl.hid hp
  obtain ⟨TX, hTX⟩ : ∃ TX, TX = Pl.B (Lib.itoa (n : Int)) := ⟨_, rfl⟩
  have hTs : TX.size ≤ 21 := by rw [hTX, Pl.B_size]; exact Pl.itoa_le _ (by unfold Pl.In64; omega)
  have HTX : Hid (TX = Pl.B (Lib.decDigits n)) := by
    show _ = _
    rw [hTX, Pl.itoa_pos (by omega)]
    rfl
  have HTW := Pl.hid (fun w' (hw' : Mm.Tab w') => text_walk (n : Int) w' (by unfold Pl.In64; omega) hw')
  rw [← hTX] at HTW
  have H13 : Hid ((TX ++ (⟨#[13, 10]⟩ : ByteArray)).size ≤ 23) := by
    show _ ≤ _
    rw [ByteArray.size_append, show (⟨#[13, 10]⟩ : ByteArray).size = 2 from rfl]
    omega
  have HE0 : Hid (l ++ [42] ++ Pl.L (TX ++ (⟨#[13, 10]⟩ : ByteArray)) = l ++ ([42] ++ Lib.decDigits n ++ Pl.crlf)) := by
    show _ = _
    rw [HTX.out, show (⟨#[13, 10]⟩ : ByteArray) = Pl.B Pl.crlf from rfl, Pl.B_append, Pl.L_B]
    simp
  clear hTX hw0 hp hnu ho hW hT hX hel' hnn hl hok hin ih hsz hE nilc
  go_enter Tryd.func48, Tryd.ntmps48
  go_wp2_with fail
  rw [← HW0eq.out, ← HPeq.out]
  refine (sign_6 w0).mono ?_
  rintro e w0' ⟨rfl, rfl⟩
  go_wp2_with (at_builtin; refine Mm.wp_app1N w0 rfl _ _ (by rfl) base v l 42 (by rfl) (by rfl) HO0.out (by omega) hb0 ?_; intro v1 w1 ho1 hb1 hn1; have HO1 := Pl.hid ho1; have HB1 := Pl.hid hb1; have HN1 := Pl.hid hn1; clear ho1 hb1 hn1 k0 k3; obtain ⟨k0, k3⟩ := HK.out w1 HN1.out)
  have HW1 : Hid (Below W.heap.size W w1) := HW.out.trans (((HB0.out.mono HBB.out).trans HB1.out).mono HWb.out)
  refine (HTW.out w1 (HT.out.on HW1.out)).mono ?_
  rintro e w2 ⟨rfl, hb2⟩
  have HN2 := Pl.hid (HN1.out.trans (Mm.NB.below hb2))
  have HB2 := Pl.hid (HB1.out.trans (hb2.mono (Nat.le_trans hb0 HB1.out.size)))
  have HO2 : Hid (Mm.OwnB w2 base v1 (l ++ [42])) := HO1.out.keep fun g hg => hb2.block g (HO1.out.lt g hg).2
  clear hb2 k0 k3
  obtain ⟨k0, k3⟩ := HK.out w2 HN2.out
  have hb2s : base ≤ w2.heap.size := Nat.le_trans hb0 HB2.out.size
  go_wp2_with (at_builtin; refine Mm.wp_appSN w2 rfl _ _ (by rfl) base v1 (l ++ [42]) (TX ++ (⟨#[13, 10]⟩ : ByteArray)) (by rfl) (by rfl) HO2.out (by have := H13.out; rw [List.length_append]; simp only [List.length_cons, List.length_nil]; omega) hb2s ?_; intro v3 w3 ho3 hb3 hn3; rw [HE0.out] at ho3; have HO3 := Pl.hid ho3; have HB3 := Pl.hid (HB2.out.trans hb3); have HN3 := Pl.hid (HN2.out.trans hn3); clear ho3 hb3 hn3 k0 k3; obtain ⟨k0, k3⟩ := HK.out w3 HN3.out)
  have HB03 : Hid (Below base w w3) := (HB0.out.mono HBB.out).trans HB3.out
  clear k0 k3
  go_loopw [50, 0] (fun iv bvv wr => ∃ (i : Nat) (bv : Value), iv = .int .i64 i ∧ bv = bvv ∧ i ≤ n ∧ Hid (Mm.OwnB wr base bv (l ++ ([42] ++ Lib.decDigits n ++ Pl.crlf) ++ RT.encL (ts.take i))) ∧ Hid (Below base w wr) ∧ Hid (Mm.NB w0 wr)) (fun iv _ _ => n - (intOf iv).toNat)
  case atStart => exact ⟨0, _, rfl, rfl, Nat.zero_le _, by show Mm.OwnB _ _ _ _; rw [List.take_zero, show RT.encL [] = [] by simp [RT.encL], List.append_nil]; exact HO3.out, HB03.out, HN3.out⟩
  case round =>
    obtain ⟨i, bv, rfl, rfl, hi, HO, HB, HN⟩ := hrel
    rcases Nat.lt_or_ge i n with hlt | hge
    · rcases HEL.out with h0 | ⟨blk, rfl, hbl, hel⟩
      · omega
      have hlt' : i < ts.length := by rw [← HNN.out]; exact hlt
      obtain ⟨f0, f1, f2, f3, g0, g1, g2, g3, hrep⟩ := hel i hlt'
      have HWr : Hid (Below W.heap.size W wr) := HW.out.trans (HB.out.mono HWb.out)
      have e0 := (HWr.out.cell (p := ⟨blk, i * 4, none⟩) hbl).trans g0
      have e1 := (HWr.out.cell (p := ⟨blk, i * 4 + 1, none⟩) hbl).trans g1
      have e2 := (HWr.out.cell (p := ⟨blk, i * 4 + 2, none⟩) hbl).trans g2
      have e3 := (HWr.out.cell (p := ⟨blk, i * 4 + 3, none⟩) hbl).trans g3
      have HREP := Pl.hid hrep
      have HLT := Pl.hid hlt'
      clear g0 g1 g2 g3 hrep hel
      obtain ⟨q, hq⟩ : ∃ q, q = wr.heap.size := ⟨_, rfl⟩
      have HQ := Pl.hid hq
      clear hq
      go_wp2_with (refine Mm.wp_store4 _ rfl _ _ rfl wr.heap.size _ _ _ _ _ _ (heap_alloc_new wr _) rfl rfl rfl HREP.out.one ?_; intro w4 hw4 hs4 hg4; have HW4 := Pl.hid hw4; have HG4 := Pl.hid hg4; have HS4 := Pl.hid hs4; clear hw4 hs4 hg4; have q0 := Mm.cellOf (i := 0) (v := f0) HW4.out rfl; have q1 := Mm.cellOf (i := 1) (v := f1) HW4.out rfl; have q2 := Mm.cellOf (i := 2) (v := f2) HW4.out rfl; have q3 := Mm.cellOf (i := 3) (v := f3) HW4.out rfl; clear e0 e1 e2 e3)
      have HN4 : Hid (Mm.NB w0 w4) := by
        refine HN.out.trans fun g o hg _ => ?_
        have hgl := (Array.getElem?_eq_some_iff.1 hg).1
        exact (HG4.out.block g (by simp; omega) (fun e => by injection e with e; omega)).trans ((Below.heap_alloc _ _ _ hgl).trans hg)
      have HB4 : Hid (Below base w w4) := by
        have hz : base ≤ wr.heap.size := Nat.le_trans HBB.out HB.out.size
        refine (HB.out.alloc hz (.cells #[.int .i64 0, .string ⟨#[]⟩, .int .i64 0, .slice none 0 0] 31)).grown HG4.out (by simp; omega) (fun k hk => by injection hk with hk; omega)
      have HO4 : Hid (Mm.OwnB w4 base bv (l ++ ([42] ++ Lib.decDigits n ++ Pl.crlf) ++ RT.encL (ts.take i))) := (HO.out.keep (w' := wr.alloc (.cells #[.int .i64 0, .string ⟨#[]⟩, .int .i64 0, .slice none 0 0] 31)) (fun g hg => Below.heap_alloc _ _ _ (HO.out.lt g hg).2)).keep fun g hg => HG4.out.block g (by have := (HO.out.lt g hg).2; simp; omega) (fun e => by injection e with e; have := (HO.out.lt g hg).2; omega)
      have hb4 : base ≤ w4.heap.size := Nat.le_trans HBB.out HB4.out.size
      have HLEN4 : Hid ((l ++ ([42] ++ Lib.decDigits n ++ Pl.crlf) ++ RT.encL (ts.take i)).length + (ts[i]'HLT.out).enc.length ≤ 1099511627776) := by
        have h1 := RT.encL_le ts (i + 1)
        have h2 := HLL.out
        rw [RT.encL_take ts i HLT.out] at h1
        show _ ≤ _
        simp only [List.length_append] at h1 h2 ⊢
        omega
      refine (IH.out _ (List.getElem_mem HLT.out) (HOK.out _ (List.getElem_mem HLT.out)) (HIN.out _ (List.getElem_mem HLT.out)) (HSZ.out _ (List.getElem_mem HLT.out)) f0 f1 f2 f3 HREP.out base bv _ w4 (HW.out.trans (HB4.out.mono HWb.out)) HWb.out hb4 HO4.out HLEN4.out).mono ?_
      rintro e w5 ⟨v5, rfl, ho5, hb5, hn5⟩
      have HO5 : Hid (Mm.OwnB w5 base v5 (l ++ ([42] ++ Lib.decDigits n ++ Pl.crlf) ++ RT.encL (ts.take (i + 1)))) := by
        rw [RT.encL_take ts i HLT.out, ← List.append_assoc]
        exact ho5
      have HB5 := Pl.hid (HB4.out.trans hb5)
      have HN5 := Pl.hid (HN4.out.trans hn5)
      clear ho5 hb5 hn5 q0 q1 q2 q3
      go_wp2_with fail
      go_roundw
      case rel => exact ⟨i + 1, v5, by go_num, rfl, by omega, HO5, HB5, HN5⟩
      case measure => simp [intOf]; omega
    · obtain rfl : i = n := by omega
      go_wp2_with fail
      go_ret
      refine ⟨_, rfl, ?_, HB.out, (Mm.NB.below HB0.out).trans HN.out⟩
      have h := HO.out
      rw [HNN.out, List.take_length] at h
      rw [← HNN.out] at h
      simpa using h
end Go.Proofs.YtakldjdohgmeiaaDoor
