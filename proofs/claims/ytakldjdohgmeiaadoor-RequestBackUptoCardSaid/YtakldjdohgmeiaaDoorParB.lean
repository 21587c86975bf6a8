/- A parser's line and number: Go's line, number. Conditions stand in each law. -/
import Derived.Test.YtakldjdohgmeiaaDoorParA
namespace Go.Proofs.YtakldjdohgmeiaaDoor
open Go.RowKit
set_option maxRecDepth 20000

namespace Pl
def natL (l : List UInt8) : List Int := l.map fun c => (c.toNat : Int)
theorem natL_length (l : List UInt8) : (natL l).length = l.length := by simp [natL]
theorem bytesOf_natL (l : List UInt8) : Lib.bytesOf (natL l) = l := by
  unfold Lib.bytesOf natL
  rw [List.map_map]
  conv => rhs; rw [← List.map_id l]
  refine List.map_congr_left fun c _ => ?_
  simp
theorem natL_getD (l : List UInt8) (i : Nat) (h : i < l.length) : (natL l).getD i 0 = at_ l i := by
  unfold natL at_
  rw [List.getD_eq_getElem?_getD, List.getD_eq_getElem?_getD, List.getElem?_map, List.getElem?_eq_getElem h]
  rfl
theorem at_take (l : List UInt8) (k i : Nat) (h : i < k) : at_ (l.take k) i = at_ l i := by
  unfold at_
  rw [List.getD_eq_getElem?_getD, List.getD_eq_getElem?_getD, List.getElem?_take, if_pos h]
theorem at_drop (l : List UInt8) (k i : Nat) : at_ (l.drop k) i = at_ l (k + i) := by
  unfold at_
  rw [List.getD_eq_getElem?_getD, List.getD_eq_getElem?_getD, List.getElem?_drop]
end Pl

namespace Mm
open Pl
theorem BytesAt.take {w : World} {g o : Nat} {l : List UInt8} (h : BytesAt w g o l) (k : Nat) : BytesAt w g o (l.take k) := fun j hj => by
  rw [List.length_take] at hj
  rw [at_take _ _ _ (by omega)]
  exact h j (by omega)
theorem BytesAt.drop {w : World} {g o : Nat} {l : List UInt8} (h : BytesAt w g o l) (k : Nat) : BytesAt w g (o + k) (l.drop k) := fun j hj => by
  rw [List.length_drop] at hj
  rw [at_drop, Nat.add_assoc]
  exact h (k + j) (by omega)
theorem BytesAt.nums {w : World} {g o : Nat} {l : List UInt8} (h : BytesAt w g o l) : ∀ i, i < l.length → w.cell? ⟨g, o + i, none⟩ = some (.int .u8 ((natL l).getD i 0)) := fun i hi => by
  rw [natL_getD l i hi]
  exact h i hi
theorem BytesAt.byteIn {w : World} {g o : Nat} {l : List UInt8} {a : Option Addr} (h : 0 < l.length → a = some ⟨g, o, none⟩ ∧ BytesAt w g o l) : Lib.BytesIn w a l.length (natL l) := fun h0 => ⟨g, o, (h h0).1, (h h0).2.nums⟩
/-- the six errors stand as they were laid -/
def RErr (w : World) : Prop := Stays (fun w => ∀ g, g = 1 ∨ g = 5 ∨ g = 4 ∨ g = 3 ∨ g = 2 ∨ g = 0 → ∃ T x, w.cell? ⟨g, 0, none⟩ = some (.iface T x)) w
end Mm

set_option maxHeartbeats 4000000 in
theorem line_some (pv : Value) (g o c m : Nat) (M : Int) (hM : M = (m : Int)) (l t : List UInt8) (w : World) (hl : l.length ≤ 140737488351232) (hc : l.length ≤ c) (h0 : 0 < l.length) (hm : m ≤ 4096) (h : Mm.BytesAt w g o l) (ht : Pl.lineM l m = some t) :
    Calls Tryd.prog 88 #[pv, .slice (some ⟨g, o, none⟩) l.length c, .int .i64 M] w fun e w' => e = .returned (.tuple #[.slice (some ⟨g, o, none⟩) t.length t.length, .bool true]) ∧ w = w' := by
  subst hM
  obtain ⟨_, h1, _, h3, h4⟩ := Pl.lineM_some ht
  have HM := Pl.hid h
  have HX : Hid (Lib.indexByte (Lib.bytesOf (Pl.natL (l.take (m + 1)))) (10 : Int).toNat.toUInt8 = (t.length : Int)) := by
    show _ = _
    rw [Pl.bytesOf_natL]
    exact h1
  have HN := Pl.hid ((HM.out.take (m + 1)).nums)
  have hcz : ¬ c = 0 := by omega
  have htc : t.length ≤ c := by omega
  clear h ht h1 h3 h4
  generalize t.length = k at htc HX ⊢
  go_enter Tryd.func88, Tryd.ntmps88
  go_wp2_with fail
  have hk : (min (l.length : Int) ((m : Int) + 1)).toNat = (l.take (m + 1)).length := by rw [List.length_take]; omega
  rw [hk]
  refine (Tryd.bytes_IndexByte g o _ c (Pl.natL (l.take (m + 1))) 10 w (Pl.natL_length _) HN.out).mono ?_
  rw [HX.out]
  rintro e w1 ⟨rfl, rfl⟩
  clear hk hm hc h0 hl HX HN HM
  have hneg : decide ((k : Int) < 0) = false := decide_eq_false (by omega)
  go_wp2_with fail
  go_ret2
  exact ⟨rfl, rfl⟩

set_option maxHeartbeats 4000000 in
theorem line_none (p g o c m : Nat) (M : Int) (hM : M = (m : Int)) (l : List UInt8) (bv : Value) (st : Pl.Pst) (F : Nat → Prop) (W w : World) (hE : Mm.RErr W) (hW : Below W.heap.size W w) (hl : l.length ≤ 140737488351232) (hc : l.length ≤ c) (hm : m ≤ 4096) (h : Mm.BytesAt w g o l) (ht : Pl.lineM l m = none)
    (hp : Mm.PQ w p bv st F) (he : st.err = false) :
    Calls Tryd.prog 88 #[.pointer (some ⟨p, 0, none⟩), .slice (some ⟨g, o, none⟩) l.length c, .int .i64 M] w fun e w' => e = .returned (.tuple #[.slice none 0 0, .bool false]) ∧ Mm.PQ w' p bv { st with err := decide (m < l.length) } F ∧ w.grownBy w' (some p) := by
  subst hM
  obtain ⟨wv, rv, ev, rows, hv, rfl⟩ := hp
  obtain ⟨Tt, xx, hx⟩ := (hE.on hW).here 0 (by simp)
  have HV := Pl.hid hv
  have HM := Pl.hid h
  have HX : Hid (Lib.indexByte (Lib.bytesOf (Pl.natL (l.take (m + 1)))) (10 : Int).toNat.toUInt8 = -1) := by
    show _ = _
    rw [Pl.bytesOf_natL]
    exact Pl.lineM_none ht
  have HN := Pl.hid ((HM.out.take (m + 1)).nums)
  have HE := Pl.hid he
  have hpl := hv.lt
  clear h ht hE hW he hv
  go_enter Tryd.func88, Tryd.ntmps88
  go_wp2_with fail
  have hk : (min (l.length : Int) ((m : Int) + 1)).toNat = (l.take (m + 1)).length := by rw [List.length_take]; omega
  rw [hk]
  refine (Tryd.bytes_IndexByte g o _ c (Pl.natL (l.take (m + 1))) 10 w (Pl.natL_length _) HN.out).mono ?_
  rw [HX.out]
  rintro e w1 ⟨rfl, rfl⟩
  clear hk
  rcases Nat.lt_or_ge m l.length with hlm | hlm
  · go_wp2_with (first | (refine Mm.wp_storeF _ rfl 53 _ _ (by rfl) (by kernel_rfl) p 7 90 (Mm.cellsP bv wv rv ev st) (.iface Tt xx) HV.out.1 (by rfl) (by rfl) (by simp [Mm.cellsP]) rfl rfl ?_; intro w2 h2 hz2 hg2; clear hz2))
    go_ret2
    refine ⟨rfl, ⟨wv, rv, .iface Tt xx, rows, HV.out.store hg2 h2 rfl rfl (.inl ⟨decide_eq_true hlm, _, _, rfl⟩), rfl⟩, hg2⟩
  · go_wp2_with fail
    go_ret2
    refine ⟨rfl, ⟨wv, rv, ev, rows, ?_, rfl⟩, ⟨rfl, rfl, rfl, Nat.le_refl _, fun _ _ _ => rfl⟩⟩
    rw [show decide (m < l.length) = st.err by rw [HE.out]; exact decide_eq_false (by omega)]
    exact HV.out
end Go.Proofs.YtakldjdohgmeiaaDoor
