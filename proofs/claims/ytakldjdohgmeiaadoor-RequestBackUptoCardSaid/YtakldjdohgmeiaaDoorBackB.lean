/- pantrylaw17.RequestBack: the law's walk. Conditions stand in each law. -/
import Derived.Test.YtakldjdohgmeiaaDoorBackA
import Derived.Test.YtakldjdohgmeiaaDoorBulC
import Derived.Test.YtakldjdohgmeiaaDoorReqM
import Derived.Test.YtakldjdohgmeiaaDoorParK
namespace Go.Proofs.YtakldjdohgmeiaaDoor
open Go.RowKit
set_option maxRecDepth 20000

namespace Pl
theorem sumL_snoc (l : List (List UInt8)) (j : Nat) (s : List UInt8) (h : l[j]? = some s) : sumL (l.take (j + 1)) = sumL (l.take j) + s.length := by
  unfold sumL
  rw [List.take_add_one, h]
  simp
theorem sumL_take (l : List (List UInt8)) (j : Nat) : sumL (l.take j) ≤ sumL l := by
  unfold sumL
  conv => rhs; rw [← List.take_append_drop j l]
  rw [List.map_append, List.sum_append]
  omega
theorem sumL_mem {l : List (List UInt8)} {s : List UInt8} (h : s ∈ l) : s.length ≤ sumL l := by
  induction l with
  | nil => cases h
  | cons a l ih =>
    unfold sumL at *
    rcases List.mem_cons.1 h with rfl | h
    · simp
    · have := ih h
      simp
      omega
theorem flat_len : ∀ ws : List (List UInt8), (∀ s ∈ ws, s.length ≤ 1048576) → (ws.flatMap bulkE).length ≤ sumL ws + 26 * ws.length
  | [], _ => by simp [sumL]
  | s :: ws, h => by
    have h1 := flat_len ws (fun x hx => h x (by simp [hx]))
    have h2 := h s (by simp)
    have h3 := (bulkE_len s (by omega)).1
    rw [List.flatMap_cons, List.length_append, List.length_cons]
    simp only [sumL, List.map_cons, List.sum_cons] at h1 ⊢
    omega
theorem reqE_len (ws : List (List UInt8)) (h1 : ws.length ≤ 1024) (h2 : sumL ws ≤ 1048576) : (reqE ws).length ≤ 1100000 := by
  have h := flat_len ws (fun s hs => Nat.le_trans (sumL_mem hs) h2)
  have hd := dec_len ws.length (by omega)
  unfold reqE crlf
  simp only [List.length_append, List.length_cons, List.length_nil]
  omega
end Pl
namespace Mm
open Pl
theorem PB.keepG {w w' : World} {p : Nat} {buf : List UInt8} {st : Pst} {G : Nat → Prop} (h : PB w p buf st G) (hb : ∀ g, g < w.heap.size → G g → w'.heap[g]? = w.heap[g]?) : PB w' p buf st G := by
  obtain ⟨bv, F, ⟨wv, rv, ev, rows, hv, hF⟩, ho, hd, hG⟩ := h
  exact ⟨bv, F, ⟨wv, rv, ev, rows, hv.keepF (fun g hg hf => hb g hg ((hG g).2 (.inl (by rw [hF]; exact hf)))), hF⟩, ho.keep (fun g hg => hb g (ho.lt g hg).2 ((hG g).2 (.inr hg))), hd, hG⟩
theorem PB.lt {w : World} {p : Nat} {buf : List UInt8} {st : Pst} {G : Nat → Prop} (h : PB w p buf st G) (g : Nat) (hg : G g) : p ≤ g ∧ g < w.heap.size := by
  obtain ⟨bv, F, hq, ho, hd, hG⟩ := h
  rcases (hG g).1 hg with h | h
  · exact hq.lt g h
  · have := ho.lt g h; omega
theorem RowC.pre {w : World} {a : Option Addr} {n c : Nat} {ls : List (List (List UInt8))} (h : RowC w (.slice a n c) ls) (k : Nat) (hk : k ≤ ls.length) : RowC w (.slice a k c) (ls.take k) := by
  obtain ⟨a', c', e, h2, h3⟩ := h
  injection e with e1 e2 e3
  subst e1 e3
  have hl : (ls.take k).length = k := by rw [List.length_take]; omega
  refine ⟨a, c, by rw [hl], by omega, fun hp => ?_⟩
  obtain ⟨g, o, e, hc⟩ := h3 (by omega)
  refine ⟨g, o, e, fun i l hl => ?_⟩
  rw [List.getElem?_take] at hl
  split at hl
  · exact hc i l hl
  · cases hl
/-- the row of the commands that may be -/
def MayR (W w : World) (v : Value) (xs : List Value) (ms : List (List (List UInt8))) : Prop := w.ownsRow W.heap.size 22 1 v xs.length xs ∧ xs.length = ms.length ∧ ∀ (j : Nat) (l : List (List UInt8)), ms[j]? = some l → ∃ vi, xs[j]? = some vi ∧ RowT W vi l
theorem MayR.rowC {W w : World} {v : Value} {xs : List Value} {ms : List (List (List UInt8))} (h : MayR W w v xs ms) (hb : Below W.heap.size W w) : RowC w v ms := by
  obtain ⟨h1, h2, h3⟩ := h
  have hcells := fun g hg => h1.cells (g := g) hg
  rcases h1.2 with ⟨e, h0⟩ | ⟨g, cap, cur, e, hg, hh, hle, _⟩
  · exact ⟨none, 0, by rw [e, ← h2, h0], by omega, fun hp => by omega⟩
  · refine ⟨some ⟨g, 0, none⟩, cap, by rw [e, h2], by omega, fun _ => ⟨g, 0, rfl, fun i l hl => ?_⟩⟩
    obtain ⟨vi, k1, k2⟩ := h3 i l hl
    have hcl := hcells g (by rw [e]; rfl) i vi k1
    have e0 : (⟨g, 0, none⟩ : Addr).add i = ⟨g, i, none⟩ := by unfold Addr.add; split <;> simp_all
    rw [e0] at hcl
    exact ⟨vi, by rw [Nat.zero_add]; exact hcl, k2.below hb⟩
theorem MayR.keep {W w w' : World} {v : Value} {xs : List Value} {ms : List (List (List UInt8))} (h : MayR W w v xs ms) (hb : ∀ g, v.ownBlock = some g → w'.heap[g]? = w.heap[g]?) : MayR W w' v xs ms := ⟨ownsRow_keep h.1 hb, h.2⟩
end Mm

set_option maxHeartbeats 8000000 in
theorem back_walk (v vb : Value) (cs : List (List (List UInt8))) (bl : List UInt8) (W : World) (hv : Mm.RowC W v cs) (hvb : Mm.Bs W vb bl) (hn : cs.length ≤ 1048576) (hbl : bl.length ≤ 1048576) (hcs : ∀ l ∈ cs, l.length ≤ 1048576 ∧ Pl.sumL l ≤ 1048576) (hT : Mm.Tab W) (hE : Mm.Errs W) (hR : Mm.RErr W) (hI : Mm.InlE W) :
    Calls Tryd.prog 7 #[v, vb] W fun e w' => e = .returned (.bool true) ∧ Below W.heap.size W w' := by
  obtain ⟨ca, cc, rfl, hcc, hcell⟩ := hv
  obtain ⟨n, hnn⟩ : ∃ n, n = cs.length := ⟨_, rfl⟩
  rw [← hnn] at hcc hcell hn ⊢
  obtain ⟨ba, bc, rfl, hbc, hbn, hby⟩ := hvb
  have HBS : Hid (Mm.Bs W (.slice ba bl.length bc) bl) := ⟨ba, bc, rfl, hbc, hbn, hby⟩
  have HNN := Pl.hid hnn
  have HCELL := Pl.hid hcell
  have HCS := Pl.hid hcs
  have HT := Pl.hid hT
  have HE := Pl.hid hE
  have HR := Pl.hid hR
  have HI := Pl.hid hI
  clear hcell hcs hT hE hR hI hnn hbn hby hcc hbc
  go_enter Tryd.func7, Tryd.ntmps7
  go_wp2_with fail
  refine (wakes17_walk W W HR.out HE.out HI.out (Below.refl _ _)).mono ?_
  rintro e w1 ⟨rfl, hb1⟩
  have HB1 := Pl.hid hb1
  clear hb1
  go_wp2_with fail
  refine (pnew_walk w1).mono ?_
  rintro e w2 ⟨rfl, hp2, hs2, hb2⟩
  obtain ⟨p, hp⟩ : ∃ p, p = w1.heap.size := ⟨_, rfl⟩
  rw [← hp] at hp2 ⊢
  have HP2 := Pl.hid hp2
  have HPW : Hid (W.heap.size ≤ p) := by show _ ≤ _; rw [hp]; exact HB1.out.size
  have HB2 : Hid (Below W.heap.size W w2) := HB1.out.trans (hb2.mono HB1.out.size)
  clear hp2 hs2 hb2 hp
  go_wp2_with fail
  go_loopw [19, 5] (fun iv mv wr => ∃ (i : Nat) (ms : List (List (List UInt8))) (ma : Option Addr) (mc : Nat) (xs : List Value) (G : Nat → Prop) (st : Pl.Pst), iv = .int .i64 i ∧ i ≤ n ∧ mv = .slice ma ms.length mc ∧ ms.length ≤ i ∧ Hid (Mm.MayR W wr (.slice ma ms.length mc) xs ms) ∧
      Hid (Mm.PB wr p [] st G) ∧ Hid (Pl.idle st ∧ Pl.okP st ∧ st.ready = ms) ∧ Hid (∀ g, (Value.slice ma ms.length mc).ownBlock = some g → ¬ G g) ∧ Hid (Below W.heap.size W wr) ∧ Hid (∀ l ∈ ms, l.length ≤ 1024)) (fun iv _ _ => n - (intOf iv).toNat)
  case atStart => exact ⟨0, [], none, 0, [], _, Pl.fresh, rfl, Nat.zero_le _, rfl, Nat.le_refl _, ⟨World.ownsRow_nil _ _ _ _, rfl, fun j l h => by simp at h⟩, HP2.out, ⟨by unfold Pl.idle Pl.fresh; simp, Pl.okP_fresh, rfl⟩, fun g h => (by cases h), HB2.out, fun l h => by cases h⟩
  case round =>
    obtain ⟨i, ms, ma, mc, xs, G, st, rfl, hi, rfl, hmi, HM, HP, HST, HD, HB, HML⟩ := hrel
    rcases Nat.lt_or_ge i n with hin | hin
    · obtain ⟨g, o, rfl, hcell⟩ := HCELL.out (by omega)
      obtain ⟨l, hl⟩ : ∃ l, cs[i]? = some l := ⟨_, List.getElem?_eq_getElem (by rw [← HNN.out]; exact hin)⟩
      obtain ⟨vi, hcv, hrow⟩ := hcell i l hl
      have hcv' := (HB.out.cell (p := ⟨g, o + i, none⟩) (World.block_lt_of_cell? _ _ hcv)).trans hcv
      have HROW := Pl.hid hrow
      obtain ⟨sa, sc, rfl, hsc, hstr⟩ := hrow
      have HSTR := Pl.hid hstr
      have HLB := Pl.hid (HCS.out l (List.mem_of_getElem? hl))
      have hl20 : l.length ≤ 1048576 := HLB.out.1
      clear hcell hcv hl hstr
      go_wp2_with fail
      clear hcv'
      go_loop [25, 9, 10] (fun jv nv lv => ∃ (j k : Nat), jv = .int .i64 j ∧ j ≤ l.length ∧ nv = .int .i64 (k : Int) ∧ lv = .bool false ∧ k ≤ 1048576 ∧ Hid (k = Pl.sumL (l.take j))) (fun jv _ _ => l.length - (intOf jv).toNat)
      case atStart => exact ⟨0, 0, rfl, Nat.zero_le _, rfl, rfl, Nat.zero_le _, rfl⟩
      case round =>
        obtain ⟨j, k, rfl, hj, rfl, rfl, hk, HK⟩ := hrel
        rcases Nat.lt_or_ge j l.length with hjl | hjl
        · obtain ⟨g1, o1, rfl, hm⟩ := HSTR.out (by omega)
          obtain ⟨s, hs⟩ : ∃ s, l[j]? = some s := ⟨_, List.getElem?_eq_getElem hjl⟩
          have hcj0 := hm j s hs
          obtain ⟨S, hS⟩ : ∃ S, S = Pl.B s := ⟨_, rfl⟩
          rw [← hS] at hcj0
          have hcj := (HB.out.cell (p := ⟨g1, o1 + j, none⟩) (World.block_lt_of_cell? _ _ hcj0)).trans hcj0
          have hsn := Pl.sumL_snoc l j s hs
          have hst := Pl.sumL_take l (j + 1)
          have hsl : S.size = s.length := by rw [hS, Pl.B_size]
          have hS20 : S.size ≤ 1048576 := by have := HLB.out.2; omega
          have HKN : Hid (k + S.size = Pl.sumL (l.take (j + 1))) := by show _ = _; rw [hsn, HK.out, hsl]
          have hk20 : k + S.size ≤ 1048576 := by have := HLB.out.2; have := HKN.out; omega
          clear hm hcj0 hs hS hsn hst hsl
          go_wp2_with fail
          go_round
          case rel => exact ⟨j + 1, k + S.size, by go_num, by omega, by go_num, congrArg Value.bool (decide_eq_false (by omega)), hk20, HKN⟩
          case measure => simp [intOf]; omega
        · obtain rfl : j = l.length := by omega
          have HSUM : Hid (Pl.sumL l ≤ 1048576) := HLB.out.2
          clear hjl hj HK
          rcases Nat.eq_zero_or_pos l.length with h0 | h0
          · go_wp2_with fail
            go_roundw
            case rel => exact ⟨i + 1, ms, ma, mc, xs, G, st, by go_num, by omega, rfl, by omega, HM, HP, HST, HD, HB, HML⟩
            case measure => simp [intOf]; omega
          · rcases Nat.lt_or_ge 1024 l.length with h24 | h24
            · go_wp2_with fail
              go_roundw
              case rel => exact ⟨i + 1, ms, ma, mc, xs, G, st, by go_num, by omega, rfl, by omega, HM, HP, HST, HD, HB, HML⟩
              case measure => simp [intOf]; omega
            · have HXL : Hid (xs.length = ms.length) := HM.out.2.1
              have hrb : xs.length < 4398046511103 := by have := HXL.out; omega
              have hbs := HB.out.size
              go_wp2_with (at_builtin; refine Mm.wp_appC _ rfl _ _ (by rfl) wr (.slice sa l.length sc) rfl W.heap.size (.slice ma ms.length mc) xs (by rfl) HM.out.1 (by rfl) (by rfl) hrb hbs ?_; intro vy wy hoy hgy haty; obtain ⟨ay, ny, ky, rfl⟩ := Mm.ownsRow_slice hoy; have HOY := Pl.hid hoy; have HGY := Pl.hid (Mm.gDrew hgy); have HATY := Pl.hid haty; clear hoy hgy haty)
              have hny : ny = (ms ++ [l]).length := by
                rcases HOY.out.2 with ⟨e, h0⟩ | ⟨g', cap, cur, e, _⟩
                · simp at h0
                · injection e with e1 e2 e3
                  rw [e2, List.length_append, HXL.out, List.length_append]
                  rfl
              subst hny
              have HZY : Hid ((wr.drew.alloc (.cells #[.slice sa l.length sc] 22)).heap.size = wr.heap.size + 1) := by show _ = _; simp
              have HBY : Hid (Below W.heap.size W wy) := by
                refine ⟨HGY.out.os.trans HB.out.os, HGY.out.tape.trans HB.out.tape, HGY.out.output.trans HB.out.output, by have := HGY.out.size; have := HZY.out; have := HB.out.size; omega, fun g0 hg0 => ?_⟩
                have hz := HZY.out
                refine ((HGY.out.block g0 (by omega) (fun e => ?_)).trans (Below.heap_alloc wr.drew _ g0 (by show g0 < wr.heap.size; omega))).trans (HB.out.block g0 hg0)
                have := (HM.out.1.lt g0 e.symm).1
                omega
              have HPY : Hid (Mm.PB wy p [] st G) := HP.out.keepG fun g0 hg0 hf => by
                have hz := HZY.out
                exact (HGY.out.block g0 (by omega) (fun e => HD.out g0 e.symm hf)).trans (Below.heap_alloc wr.drew _ g0 hg0)
              have HMY : Hid (Mm.MayR W wy (.slice ay (ms ++ [l]).length ky) (xs ++ [.slice sa l.length sc]) (ms ++ [l])) := by
                refine ⟨HOY.out, by simp [HXL.out], fun j l' hj => ?_⟩
                rcases Nat.lt_or_ge j ms.length with hjm | hjm
                · rw [List.getElem?_append_left hjm] at hj
                  obtain ⟨vi, k1, k2⟩ := HM.out.2.2 j l' hj
                  exact ⟨vi, by rw [List.getElem?_append_left (by rw [HXL.out]; exact hjm)]; exact k1, k2⟩
                · rw [List.getElem?_append_right hjm] at hj
                  have h0 : j - ms.length = 0 := by
                    have := (List.getElem?_eq_some_iff.1 hj).1
                    simp at this
                    omega
                  rw [h0] at hj
                  obtain rfl : l = l' := by simpa using hj
                  refine ⟨_, ?_, HROW.out⟩
                  rw [List.getElem?_append_right (by rw [HXL.out]; exact hjm), HXL.out, h0]
                  rfl
              have HDY : Hid (∀ g, (Value.slice ay (ms ++ [l]).length ky).ownBlock = some g → ¬ G g) := fun g0 hg0 hf => by
                rcases HATY.out with e | e
                · exact HD.out g0 (by rw [← e]; exact hg0) hf
                · rw [e] at hg0
                  injection hg0 with hg0
                  have h1 := (HP.out.lt g0 hf).2
                  simp at hg0
                  omega
              have hrq := Pl.reqE_len l h24 HSUM.out
              have HSTS : Hid (∀ s ∈ l, s.length ≤ 1048576) := fun s hs => Nat.le_trans (Pl.sumL_mem hs) HSUM.out
              clear HOY HGY HATY
              refine (request_walk (.slice sa l.length sc) l W wy HT.out HBY.out (HROW.out.below HBY.out) hl20 HSTS.out (by omega)).mono ?_
              rintro e w3 ⟨bv, rfl, ho3, hb3⟩
              have HO3 := Pl.hid ho3
              have HB3 := Pl.hid (HBY.out.trans (hb3.mono HBY.out.size))
              have HP3 := Pl.hid (HPY.out.below hb3)
              have HM3 := Pl.hid (HMY.out.keep (w' := w3) fun g0 hg0 => hb3.block g0 (HMY.out.1.lt g0 hg0).2)
              have HIDL : Hid (Pl.idle st) := HST.out.1
              have HFR := Pl.hid (Pl.feed_req st l HIDL.out h0 h24 (by have := HSUM.out; omega) HSTS.out)
              clear hb3 ho3
              go_wp2_with fail
              refine (feed_walk p bv (Pl.reqE l) [] st G W w3 HPW.out HR.out HE.out HI.out HB3.out (by omega) (by simp) HO3.out.bs HP3.out HIDL.out.2.2.2.2 HST.out.2.1 ms.length (by
                obtain ⟨k1, k2, _⟩ := HIDL.out
                unfold Pl.bnd
                rw [k1, k2, HST.out.2.2]
                simp) (by simp; omega)).mono ?_
              rw [HFR.out]
              rintro e w4 ⟨rfl, G4, hp4, hc4⟩
              have HP4 := Pl.hid hp4
              have HN4 := Pl.hid hp4.asked
              have HB4 : Hid (Below W.heap.size W w4) := hc4.under HB3.out (fun g hg => by have := (HP3.out.lt g hg).1; have := HPW.out; omega)
              have HD3 : Hid (∀ g, (Value.slice ay (ms ++ [l]).length ky).ownBlock = some g → ¬ G g) := HDY.out
              have HM4 := Pl.hid (HM3.out.keep (w' := w4) fun g0 hg0 => hc4.block g0 (HM3.out.1.lt g0 hg0).2 (HDY.out g0 hg0))
              have HD4 : Hid (∀ g, (Value.slice ay (ms ++ [l]).length ky).ownBlock = some g → ¬ G4 g) := fun g0 hg0 hf => by
                rcases hc4.foot g0 hf with h | h
                · exact HDY.out g0 hg0 h
                · have := (HM3.out.1.lt g0 hg0).2
                  omega
              clear hp4 hc4
              go_wp2_with fail
              refine (perr_walk p _ _ 0 w4 HN4.out).mono ?_
              rintro e w4' ⟨⟨ev, rfl, he⟩, rfl⟩
              obtain rfl : ev = .nilIface := by
                rcases he with ⟨h, _⟩ | ⟨_, h⟩
                · cases h
                · exact h
              clear he
              go_wp2_with fail
              refine (pheld_walk p _ _ 0 w4 HN4.out (by simp) (by decide)).mono ?_
              rintro e w5 ⟨rfl, hb5⟩
              have HB5 := Pl.hid (HB4.out.trans (hb5.mono HB4.out.size))
              have HP5 := Pl.hid (HP4.out.below hb5)
              have HM5 := Pl.hid (HM4.out.keep (w' := w5) fun g0 hg0 => hb5.block g0 (HM4.out.1.lt g0 hg0).2)
              clear hb5
              go_wp2_with fail
              go_roundw
              case rel =>
                refine ⟨i + 1, ms ++ [l], ay, ky, xs ++ [.slice sa l.length sc], G4, _, by go_num, by omega, by simp, by simp; omega, HM5, HP5, ⟨⟨rfl, rfl, rfl, rfl, rfl⟩, ?_, ?_⟩, HD4, HB5, fun l' hl' => ?_⟩
                · unfold Pl.okP
                  simp
                  have := HSUM.out
                  omega
                · show st.ready ++ [l] = ms ++ [l]
                  rw [HST.out.2.2]
                · rcases List.mem_append.1 hl' with h | h
                  · exact HML.out l' h
                  · obtain rfl : l' = l := by simpa using h
                    exact h24
              case measure => simp [intOf]; omega
    · have HIN : Hid (i = n) := by show _ = _; omega
      have HIDL : Hid (Pl.idle st) := HST.out.1
      have HBB := Pl.hid (HBS.out.keep (w' := wr) fun a n c g o _ _ _ hg => HB.out.block g hg)
      go_wp2_with fail
      refine (feed_walk p _ bl [] st G W wr HPW.out HR.out HE.out HI.out HB.out (by omega) (by simp) HBB.out HP.out HIDL.out.2.2.2.2 HST.out.2.1 ms.length (by
        obtain ⟨k1, k2, _⟩ := HIDL.out
        unfold Pl.bnd
        rw [k1, k2, HST.out.2.2]
        simp) (by simp; omega)).mono ?_
      obtain ⟨ex, hex⟩ := Pl.feedA_more st [] bl
      rw [HST.out.2.2] at hex
      have HEX := Pl.hid hex
      clear hex
      generalize Pl.feedA st [] bl = fr at HEX ⊢
      rintro e w4 ⟨rfl, G4, hp4, hc4⟩
      have HN4 := Pl.hid hp4.asked
      have HB4 : Hid (Below W.heap.size W w4) := hc4.under HB.out (fun g hg => by have := (HP.out.lt g hg).1; have := HPW.out; omega)
      have HM4 := Pl.hid (HM.out.keep (w' := w4) fun g0 hg0 => hc4.block g0 (HM.out.1.lt g0 hg0).2 (HD.out g0 hg0))
      have HNP : Hid ((Value.slice ma ms.length mc).ownBlock ≠ some p) := fun e => HD.out p e (by
        obtain ⟨bv, F, hq, _, _, hG⟩ := HP.out
        exact (hG p).2 (.inl hq.own))
      clear hp4 hc4
      go_wp2_with fail
      refine (all_walk p (ms.length + bl.length) _ _ _ w4 HN4.out (by omega)).mono ?_
      rintro e w6 ⟨⟨va, rfl, hrc⟩, hg6⟩
      rw [HEX.out] at hrc
      have hlen : ((ms ++ ex).take (ms.length + bl.length + 1)).length = min (ms.length + bl.length + 1) (ms.length + ex.length) := by rw [List.length_take, List.length_append]
      obtain ⟨ra, rcap, hra, hrle, _⟩ := id hrc
      subst hra
      have HPRE : Hid (Mm.RowC w6 (.slice ra ms.length rcap) ms) := by
        have := hrc.pre ms.length (by omega)
        rw [List.take_take, show min ms.length (ms.length + bl.length + 1) = ms.length by omega, List.take_left] at this
        exact this
      have HB6 : Hid (Below W.heap.size W w6) := HB4.out.grown hg6 HB4.out.size (fun k hk => by injection hk with hk; have := HPW.out; omega)
      have HM6 := Pl.hid (HM4.out.keep (w' := w6) fun g0 hg0 => hg6.block g0 (HM4.out.1.lt g0 hg0).2 (fun e => HNP.out (by rw [hg0, e])))
      have HMC := Pl.hid (HM6.out.rowC HB6.out)
      have hLm : ms.length ≤ ((ms ++ ex).take (ms.length + bl.length + 1)).length := by omega
      generalize ((ms ++ ex).take (ms.length + bl.length + 1)).length = LL at hLm hrle ⊢
      have hmc : ms.length ≤ rcap := by omega
      clear hrc hg6 hlen
      go_wp2_with fail
      refine (sameLists_eq _ _ ms _ (by omega) (fun l hl => by have := HML.out l hl; omega) HPRE.out HMC.out).mono ?_
      rintro e w7 ⟨rfl, hb7⟩
      have HB7 := Pl.hid (HB6.out.trans (hb7.mono HB6.out.size))
      clear hb7
      go_wp2_with fail
      go_ret
      exact ⟨rfl, HB7.out⟩
end Go.Proofs.YtakldjdohgmeiaaDoor
