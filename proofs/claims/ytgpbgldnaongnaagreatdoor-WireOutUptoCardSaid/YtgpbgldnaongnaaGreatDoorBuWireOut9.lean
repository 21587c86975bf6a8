/- Plain: what reply.Error makes of a text: each CR and LF becomes a blank. No program in sight. The makers Simple and Null. Conditions stand in each law. internal/bytealg.MaxLen holds some number. Conditions stand in each law. The makers Error, of both sides. Conditions stand in each law. Contracts of the law's sameBytes, same, roomy, kept. Conditions stand in each law. A wire above a parser: New, Feed, Send, Output, Next, Closed, Broken. Conditions stand in each law. A wire that meets no request; the law's same and wakes. Conditions stand in each law. A reply that came in, read through: 'within' tells some answer and turns nothing. Condition: the reply's memory reads as a finite tree. The law's within and bounded of replies that came in; bytes behind an owned row. Conditions stand in each law. Conditions stand in each law. -/
import Derived.Lib.Replace
import Derived.Test.YtgpbgldnaongnaaGreatDoorBuWireOut7
import Derived.Test.YtgpbgldnaongnaaGreatDoorBuWireOut6
import Derived.Test.YtgpbgldnaongnaaGreatDoorBuWireOut5
import Derived.Shelf.Strings.Replace
import Derived.Test.YtgpbgldnaongnaaGreatDoorBuWireOut2
import Derived.Test.YtgpbgldnaongnaaGreatDoorBuWireOut8
import Derived.Lib.SlBytesConst
import Derived.ChangeArms
namespace Go.Proofs.YtgpbgldnaongnaaGreatDoor
set_option maxRecDepth 20000
namespace Pl
def sub1 (c d x : UInt8) : UInt8 := if x = c then d else x
theorem replK_eq (c d : UInt8) (k : Nat) (l : List UInt8) : Lib.replaceK [c] [d] (k + 1) (c :: l) = d :: Lib.replaceK [c] [d] k l := by
  have hix : Lib.index (c :: l) [c] = ((0 : Nat) : Int) := by rw [Lib.index]; simp [List.isPrefixOf]
  rw [Lib.replaceK_hit _ _ _ _ 0 hix]
  simp
theorem replK_ne (c d b : UInt8) (h : b ≠ c) (k : Nat) (l : List UInt8) : Lib.replaceK [c] [d] k (b :: l) = b :: Lib.replaceK [c] [d] k l := by
  cases k with
  | zero => rfl
  | succ k =>
    have hp : ([c] : List UInt8).isPrefixOf (b :: l) = false := by simp [List.isPrefixOf, Ne.symm h]
    have hix : Lib.index (b :: l) [c] = if Lib.index l [c] == -1 then -1 else Lib.index l [c] + 1 := by rw [Lib.index, hp]; simp
    have hge := Lib.index_ge l [c]
    by_cases hm : Lib.index l [c] = -1
    · have e1 : Lib.index (b :: l) [c] = -1 := by rw [hix, hm]; first | done | rfl
      rw [Lib.replaceK, Lib.replaceK, e1, hm]
      rfl
    · obtain ⟨i, hi⟩ : ∃ i : Nat, Lib.index l [c] = i := ⟨_, (Int.toNat_of_nonneg (by omega)).symm⟩
      have e1 : Lib.index (b :: l) [c] = ((i + 1 : Nat) : Int) := by
        rw [hix, hi, if_neg (by simp <;> omega)]
        omega
      rw [Lib.replaceK_hit _ _ _ _ (i + 1) e1, Lib.replaceK_hit _ _ _ _ i hi]
      simp
theorem replAll (c d : UInt8) (h : c ≠ d) (l : List UInt8) : Lib.replaceAll l [c] [d] = l.map (sub1 c d) := by
  unfold Lib.replaceAll Lib.replace Lib.replaceNum
  rw [if_neg (by simpa using h), if_pos (.inl (by decide)), Lib.count_one]
  induction l with
  | nil => rfl
  | cons b l ih =>
    by_cases hb : b = c
    · subst hb
      rw [List.count_cons_self, replK_eq, ih]
      simp [sub1]
    · rw [List.count_cons_of_ne hb, replK_ne c d b hb, ih]
      simp [sub1, hb]
/-- what Error makes of a text -/
def errL (l : List UInt8) : List UInt8 := l.map fun c => if isEnd c then 32 else c
def errT (s : ByteArray) : ByteArray := B (errL (L s))
theorem errL_eq (l : List UInt8) : Lib.replaceAll (Lib.replaceAll l [13] [32]) [10] [32] = errL l := by
  rw [replAll 13 32 (by decide), replAll 10 32 (by decide), List.map_map]
  unfold errL
  apply List.map_congr_left
  intro c _
  unfold sub1 isEnd
  by_cases h1 : c = 13
  · subst h1; decide
  · by_cases h2 : c = 10
    · subst h2; decide
    · simp [h1, h2]
theorem errT_size (s : ByteArray) : (errT s).size = s.size := by
  unfold errT errL
  rw [B_size, List.length_map, L_length]
theorem errT_noEnd (s : ByteArray) : noEnd (L (errT s)) = true := by
  unfold errT errL
  rw [L_B]
  unfold noEnd
  rw [List.all_eq_true]
  intro c hc
  obtain ⟨x, _, rfl⟩ := List.mem_map.1 hc
  by_cases h : isEnd x = true
  · rw [if_pos h]; decide
  · rw [if_neg h]
    simpa using h
theorem errT_data (s : ByteArray) : (⟨(Lib.replaceAll (⟨(Lib.replaceAll s.data.toList [13] [32]).toArray⟩ : ByteArray).data.toList [10] [32]).toArray⟩ : ByteArray) = errT s := by
  apply ba_ext
  show (Lib.replaceAll (Lib.replaceAll s.data.toList [13] [32]) [10] [32]) = _
  rw [errL_eq]
  unfold errT
  rw [L_B]
  rfl
end Pl
end Go.Proofs.YtgpbgldnaongnaaGreatDoor

namespace Go.Proofs.YtgpbgldnaongnaaGreatDoor
open Go.RowKit
set_option maxRecDepth 20000

namespace Mm
/-- the four cells of a reply without a list -/
def leaf (k : Int) (s : ByteArray) (n : Int) : List Value := [.int .i64 k, .string s, .int .i64 n, .slice none 0 0]
theorem leaf_rep (w : World) (k : Int) (s : ByteArray) (n : Int) : RepB w (.mk k s n []) [.int .i64 k, .string s, .int .i64 n, .slice none 0 0] [] :=
  .mk k s n [] (.slice none 0 0) [] [] ⟨rfl, .inl ⟨rfl, rfl⟩⟩ .nil
theorem leaf_own (w : World) (lo : Nat) (k : Int) (s : ByteArray) (n : Int) : OwnT w lo (.mk k s n []) [.int .i64 k, .string s, .int .i64 n, .slice none 0 0] :=
  ⟨[], leaf_rep w k s n, List.nodup_nil, fun g hg => by cases hg⟩
theorem leaf_x (w : World) (k : Int) (s : ByteArray) (n : Int) : RepX w (.mk k s n []) [.int .i64 k, .string s, .int .i64 n, .slice none 0 0] := ⟨[], leaf_rep w k s n⟩
theorem leaf_one {k : Int} {s : ByteArray} {n : Int} : ∀ u ∈ [Value.int .i64 k, Value.string s, Value.int .i64 n, Value.slice none 0 0], u.oneCell' = true := by
  intro u hu
  simp only [List.mem_cons, List.mem_nil_iff, or_false] at hu
  rcases hu with rfl | rfl | rfl | rfl <;> rfl
/-- a block of one's own that was stored into -/
theorem newcell4 {w1 w2 : World} {o : Array Value} {T : TypeId} (hg : (w1.alloc (.cells o T)).grownBy w2 (some w1.heap.size)) : Below w1.heap.size w1 w2 :=
  ((Below.refl w1.heap.size w1).alloc (Nat.le_refl _) (.cells o T)).grown hg (by simp) (fun k hk => by injection hk with hk; omega)
end Mm
theorem mk_simple (s : ByteArray) (w : World) : Calls Tryz.prog 15 #[.string s] w fun e w' => e = .returned (.agg #[.int .i64 1, .string s, .int .i64 0, .slice none 0 0]) ∧ Below w.heap.size w w' := by
  go_enter Tryz.func15, Tryz.ntmps15
  go_wp2_with (refine Mm.wp_store4 _ rfl _ _ rfl w.heap.size _ _ _ _ _ _ (heap_alloc_new w _) rfl rfl rfl Mm.leaf_one ?_; intro w2 hw2 _ hg2; have HW2 := Pl.hid hw2; have HB2 := Pl.hid (Mm.newcell4 hg2); clear hw2 hg2)
  refine bodyPost_ret (Mm.res_cell rfl _ w2 w.heap.size _ _ _ _ _ _ rfl HW2.out) rfl ?_
  exact ⟨rfl, HB2.out⟩
theorem mk_null (w : World) : Calls Tryz.prog 17 #[] w fun e w' => e = .returned (.agg #[.int .i64 5, .string ⟨#[]⟩, .int .i64 0, .slice none 0 0]) ∧ Below w.heap.size w w' := by
  go_enter Tryz.func17, Tryz.ntmps17
  go_wp2_with (refine Mm.wp_store4 _ rfl _ _ rfl w.heap.size _ _ _ _ _ _ (heap_alloc_new w _) rfl rfl rfl Mm.leaf_one ?_; intro w2 hw2 _ hg2; have HW2 := Pl.hid hw2; have HB2 := Pl.hid (Mm.newcell4 hg2); clear hw2 hg2)
  refine bodyPost_ret (Mm.res_cell rfl _ w2 w.heap.size _ _ _ _ _ _ rfl HW2.out) rfl ?_
  exact ⟨rfl, HB2.out⟩
end Go.Proofs.YtgpbgldnaongnaaGreatDoor

namespace Go.Proofs.YtgpbgldnaongnaaGreatDoor
open Go.RowKit
set_option maxRecDepth 20000

namespace Mm
/-- the variable internal/bytealg.MaxLen holds some number, for good -/
def MaxI (w : World) : Prop := Stays (fun w => ∃ m, w.cell? ⟨6, 0, none⟩ = some (.int .i64 m)) w
theorem maxI_of {w : World} (h : ∃ m, w.cell? ⟨6, 0, none⟩ = some (.int .i64 m)) : MaxI w := fun _ hb => by
  obtain ⟨m, hm⟩ := h
  exact ⟨m, (hb.cell (p := ⟨6, 0, none⟩) (World.block_lt_of_cell? _ _ hm)).trans hm⟩
end Mm
end Go.Proofs.YtgpbgldnaongnaaGreatDoor

namespace Go.Proofs.YtgpbgldnaongnaaGreatDoor
open Go.RowKit
set_option maxRecDepth 20000

theorem extra155 : Builder.Extra Tryz.prog Tryz.lays155_ren where
  sizeBuilder := by kernel_rfl
  liesBuilder := by kernel_rfl
  t5 := Tryz.lays155.t5
  a5 := Tryz.lays155.a5
  z5 := Tryz.lays155.z5
  v5 := Tryz.lays155.v5
  infoByte := by kernel_rfl
  cellsByte := by kernel_rfl
  sizeByte := by kernel_rfl
  neB5 := by decide

theorem replaceAll_walk (s : ByteArray) (c d : UInt8) (w : World) (hX : Mm.MaxI w) (hs : s.size ≤ 100000000) :
    Calls Tryz.prog 34 #[.string s, .string ⟨#[c]⟩, .string ⟨#[d]⟩] w fun e w' => e = .returned (.string ⟨(Lib.replaceAll s.data.toList [c] [d]).toArray⟩) ∧ Below w.heap.size w w' := by
  obtain ⟨m, hm⟩ := hX.here
  refine Any.strings_ReplaceAll Tryz.lays155 extra155 s ⟨#[c]⟩ ⟨#[d]⟩ m w (by omega) hm (Nat.le_refl 1) ?_
  have h : Lib.countB s ⟨#[c]⟩ ≤ s.size + 1 := Lib.count_le s.data.toList [c]
  have e : (⟨#[d]⟩ : ByteArray).size = 1 := rfl
  rw [e]
  omega

namespace Pl
def e1 (c : UInt8) : UInt8 := if isEnd c then 32 else c
def mixV (l : List UInt8) (i j : Nat) : Value := .int .u8 (((if j < i then e1 (l.getD j 0) else l.getD j 0).toNat : Nat) : Int)
theorem mixV_here (l : List UInt8) (i : Nat) : mixV l i i = .int .u8 (((l.getD i 0).toNat : Nat) : Int) := by unfold mixV; rw [if_neg (Nat.lt_irrefl _)]
/-- a row whose first n places are those of the mix -/
def Mix (l : List UInt8) (n i C : Nat) (cur : Array Value) : Prop := cur.size = C ∧ n ≤ C ∧ ∀ j, j < n → cur[j]? = some (mixV l i j)
theorem Mix.same {l : List UInt8} {n i C : Nat} {cur : Array Value} (h : Mix l n i C cur) (hx : isEnd (l.getD i 0) = false) : Mix l n (i + 1) C cur := ⟨h.1, h.2.1, fun j hj => by
  rw [h.2.2 j hj]
  unfold mixV
  by_cases h1 : j = i
  · subst h1
    rw [if_neg (Nat.lt_irrefl _), if_pos (Nat.lt_succ_self _)]
    unfold e1
    rw [if_neg (by rw [hx]; simp)]
  · by_cases h2 : j < i
    · rw [if_pos h2, if_pos (by omega)]
    · rw [if_neg h2, if_neg (by omega)]⟩
theorem Mix.set {l : List UInt8} {n i C : Nat} {cur : Array Value} (h : Mix l n i C cur) (hi : i < n) (hx : isEnd (l.getD i 0) = true) : Mix l n (i + 1) C (cur.setIfInBounds i (.int .u8 32)) := ⟨by rw [Array.size_setIfInBounds]; exact h.1, h.2.1, fun j hj => by
  by_cases h1 : j = i
  · subst h1
    have hs : j < cur.size := by rw [h.1]; have := h.2.1; omega
    rw [Array.getElem?_setIfInBounds_self_of_lt hs]
    unfold mixV
    rw [if_pos (Nat.lt_succ_self _)]
    unfold e1
    rw [if_pos hx]
    rfl
  · rw [Array.getElem?_setIfInBounds_ne (Ne.symm h1), h.2.2 j hj]
    unfold mixV
    by_cases h2 : j < i
    · rw [if_pos h2, if_pos (by omega)]
    · rw [if_neg h2, if_neg (by omega)]⟩
theorem Mix.all {s : ByteArray} {C : Nat} {cur : Array Value} (h : Mix (L s) s.size s.size C cur) : ∀ j, j < (errL (L s)).length → cur[j]? = some (.int .u8 (at_ (errL (L s)) j)) := fun j hj => by
  have hl : (errL (L s)).length = s.size := by unfold errL; rw [List.length_map, L_length]
  have hj' : j < s.size := by omega
  rw [h.2.2 j hj']
  unfold mixV at_ errL e1
  rw [if_pos hj']
  have hj2 : j < (L s).length := by rw [L_length]; exact hj'
  simp only [List.getD_eq_getElem?_getD, List.getElem?_map, List.getElem?_eq_getElem hj2, Option.map_some, Option.getD_some]
end Pl
namespace Mm
open Pl
/-- '[]byte(s)', with the block it lies in -/
theorem wp_tobytesC {ops : Array Oper} {rest : List Oper} {o : Oper} {a : Act} {Q : Exit → Act → World → Prop} (w : World) (hgd : o.guard = none) (x : Operand) (ho : o.op = .convert 9 23 x)
    (s : ByteArray) (hx : a.eval x = .string s)
    (hK : ∀ c cur w', Mix (L s) s.size 0 c cur → w'.heap[w.heap.size]? = some (.cells cur 5 (cur.size, cur.size + 1)) → w'.heap.size = w.heap.size + 1 → Below w.heap.size w w' →
      wpList Tryz.prog ops Q rest (a.put o.dst (.slice (some ⟨w.heap.size, 0, none⟩) s.size c)) w') : wpList Tryz.prog ops Q (o :: rest) a w := by
  refine wpList_plain hgd fun K hK' => ?_
  have hrun := run_bytes_of_string (P := Tryz.prog) w 9 23 5 s Tryz.underlying9 Tryz.underlying23 Tryz.underlying5
  unfold Oper.wp
  simp [execOp, ho, hx, hrun, Result.andThen]
  refine hK' _ _ (hK _ (bytesRow s (grownCap w s.size 0 5)) _ ?_ (heap_alloc_new w.drew _) (by simp) (((Below.refl _ _).drew).alloc (by simp) _))
  refine ⟨?_, grownCap_ge _ _ _ _, fun j hj => ?_⟩
  · have h1 : s.data.size = s.size := rfl
    have h2 := grownCap_ge w s.size 0 5
    unfold bytesRow
    rw [Array.size_append, Array.size_map, Array.size_replicate, h1]
    omega
  · have hj' : j < s.data.size := hj
    rw [bytesRow_at s _ j hj']
    unfold mixV
    rw [if_neg (Nat.not_lt_zero _)]
    have h2 : j < (L s).length := by rw [L_length]; exact hj
    rw [List.getD_eq_getElem?_getD, List.getElem?_eq_getElem h2]
    rfl
theorem frozen_mark {w : World} {p i : Nat} {cs : Array Value} {T : TypeId} (h : w.heap[p]? = some (.cells cs T (cs.size, cs.size + 1))) (hi : i < cs.size) : w.frozen? ⟨p, i, none⟩ = false := by
  simp [World.frozen?, h]
  omega
/-- 'string(b)', at cells that are told -/
theorem wp_strC {ops : Array Oper} {rest : List Oper} {o : Oper} {a : Act} {Q : Exit → Act → World → Prop} (w : World) (hgd : o.guard = none) (x : Operand) (ho : o.op = .convert 23 9 x)
    (g n c : Nat) (l : List UInt8) (h : ∀ j, j < l.length → w.cell? ⟨g, j, none⟩ = some (.int .u8 (at_ l j))) (hx : a.eval x = .slice (some ⟨g, 0, none⟩) n c) (hn : l.length = n) (hK : wpList Tryz.prog ops Q rest (a.put o.dst (.string (B l))) w) : wpList Tryz.prog ops Q (o :: rest) a w := by
  subst hn
  refine wpList_plain hgd fun K hK' => ?_
  have hrun := run_convert_bytes_back w 23 9 5 ⟨g, 0, none⟩ c l Tryz.underlying23 Tryz.underlying5 Tryz.underlying9 (fun j hj => by
    have e : (⟨g, 0, none⟩ : Addr).add j = ⟨g, j, none⟩ := by unfold Addr.add; split <;> simp_all
    rw [e, h j hj]
    simp [at_, List.getD_eq_getElem?_getD, List.getElem?_eq_getElem hj])
  unfold Oper.wp
  simp [execOp, ho, hx, hrun, Result.andThen]
  exact hK' _ _ hK
end Mm

set_option maxHeartbeats 4000000 in
theorem mk_error (s : ByteArray) (w : World) (hX : Mm.MaxI w) (hs : s.size ≤ 100000000) : Calls Tryz.prog 28 #[.string s] w fun e w' => e = .returned (.agg #[.int .i64 2, .string (Pl.errT s), .int .i64 0, .slice none 0 0]) ∧ Below w.heap.size w w' := by
  obtain ⟨w1, hw1⟩ : ∃ w1, w.alloc (.cells #[.int .i64 0, .string ⟨#[]⟩, .int .i64 0, .slice none 0 0] 25) = w1 := ⟨_, rfl⟩
  obtain ⟨r, hr⟩ : ∃ r, w.heap.size = r := ⟨_, rfl⟩
  have HR1 : Hid (w1.heap[r]? = some (.cells #[.int .i64 0, .string ⟨#[]⟩, .int .i64 0, .slice none 0 0] 25 (0, 0))) := by show _ = _; rw [← hw1, ← hr]; exact heap_alloc_new w _
  have HB1 : Hid (Below w.heap.size w w1) := by rw [← hw1]; exact (Below.refl _ _).alloc (Nat.le_refl _) _
  have HX1 := Pl.hid (hX.on HB1.out)
  obtain ⟨s1, hs1⟩ : ∃ s1 : ByteArray, s1 = ⟨(Lib.replaceAll s.data.toList [13] [32]).toArray⟩ := ⟨_, rfl⟩
  have HS1 : Hid (s1.size ≤ 100000000) := by
    show _ ≤ _
    rw [hs1, Pl.replAll 13 32 (by decide)]
    show (List.map _ _).toArray.size ≤ _
    rw [List.size_toArray, List.length_map]
    exact hs
  have HE : Hid ((⟨(Lib.replaceAll s1.data.toList [10] [32]).toArray⟩ : ByteArray) = Pl.errT s) := by
    show _ = _
    rw [hs1]
    exact Pl.errT_data s
  have HC1 := Pl.hid (replaceAll_walk s 13 32 w1 HX1.out hs)
  rw [← hs1] at HC1
  have HRL : Hid (r < w1.heap.size ∧ w.heap.size = r) := ⟨(Array.getElem?_eq_some_iff.1 HR1.out).1, hr⟩
  clear hX hs hs1
  go_enter Tryz.func28, Tryz.ntmps28
  go_wp2_with (first
    | (go_at_call 34; refine HC1.out.mono ?_; rintro e w2 ⟨rfl, hb2⟩; have HB2 := Pl.hid hb2; clear hb2)
    | (go_at_call 34; refine (replaceAll_walk s1 10 32 w2 (HX1.out.on HB2.out) HS1.out).mono ?_; rintro e w3 ⟨rfl, hb3⟩; rw [HE.out]; have HB3 := Pl.hid hb3; clear hb3)
    | (refine Mm.wp_store4 _ rfl _ _ rfl r _ _ _ _ _ _ ((HB3.out.block r (by have := HB2.out.size; have := HRL.out.1; omega)).trans ((HB2.out.block r HRL.out.1).trans HR1.out)) rfl rfl rfl Mm.leaf_one ?_; intro wf hwf hsf hgf; clear hsf; have HWF := Pl.hid hwf; have HGF := Pl.hid hgf; clear hwf hgf))
  refine bodyPost_ret (Mm.res_cell rfl _ wf r _ _ _ _ _ _ rfl HWF.out) rfl ?_
  have hrl := HRL.out
  have b1 := HB1.out
  have b3 : Below w.heap.size w w3 := b1.trans ((HB2.out.trans (HB3.out.mono HB2.out.size)).mono b1.size)
  exact ⟨rfl, b3.grown HGF.out b3.size (fun k hk => by injection hk with hk; omega)⟩

end Go.Proofs.YtgpbgldnaongnaaGreatDoor

namespace Go.Proofs.YtgpbgldnaongnaaGreatDoor
open Go.RowKit
set_option maxRecDepth 20000

namespace Mm
open Pl
/-- a slice of bytes that came in -/
def BytesV (w : World) (v : Value) (l : List UInt8) : Prop :=
  ∃ p c, v = .slice p l.length c ∧ (l.length = 0 ∧ (p = none → c = 0) ∨ ∃ g o, p = some ⟨g, o, none⟩ ∧ g < w.heap.size ∧ BytesAt w g o l)
theorem BytesV.below {w w' : World} {v : Value} {l : List UInt8} (h : BytesV w v l) (hb : Below w.heap.size w w') : BytesV w' v l := by
  obtain ⟨p, c, hv, h0 | ⟨g, o, hp, hg, hm⟩⟩ := h
  · exact ⟨p, c, hv, .inl h0⟩
  · exact ⟨p, c, hv, .inr ⟨g, o, hp, Nat.lt_of_lt_of_le hg hb.size, hm.keep (hb.block g hg)⟩⟩
theorem BytesV.nil (w : World) : BytesV w (.slice none 0 0) [] := ⟨none, 0, rfl, .inl ⟨rfl, fun _ => rfl⟩⟩
theorem OwnB.bytesV {w : World} {b : Nat} {v : Value} {l : List UInt8} (h : OwnB w b v l) : BytesV w v l := by
  obtain ⟨a, c, rfl, h0 | ⟨g, rfl, _, hg, _⟩⟩ := h.val
  · exact ⟨_, _, rfl, .inl ⟨h0.1, fun _ => h0.2.2⟩⟩
  · exact ⟨_, _, rfl, .inr ⟨g, 0, rfl, hg, h.bytesAt⟩⟩
end Mm

/-- the same bytes are told to be the same -/
theorem sameBytes_eq (va vb : Value) (l : List UInt8) (w : World) (hl : l.length ≤ 9223372036854775807) (ha : Mm.BytesV w va l) (hb : Mm.BytesV w vb l) :
    Calls Tryz.prog 9 #[va, vb] w fun e w' => e = .returned (.bool true) ∧ Below w.heap.size w w' := by
  obtain ⟨pa, ca, rfl, ha⟩ := ha
  obtain ⟨pb, cb, rfl, hb⟩ := hb
  obtain ⟨n, hn⟩ : ∃ n, n = l.length := ⟨_, rfl⟩
  rw [← hn] at ha hb hl ⊢
  have HA := Pl.hid ha
  have HB := Pl.hid hb
  have HN := Pl.hid hn
  clear ha hb hn
  go_enter Tryz.func9, Tryz.ntmps9
  go_wp2_with fail
  go_loopw [5] (fun iv wr => ∃ i : Nat, iv = .int .i64 i ∧ i ≤ n ∧ Hid (Below w.heap.size w wr)) (fun iv _ => n - (intOf iv).toNat)
  case atStart => exact ⟨0, rfl, Nat.zero_le _, Below.refl _ _⟩
  case round =>
    obtain ⟨i, rfl, hi, HR⟩ := hrel
    rcases Nat.lt_or_ge i n with hlt | hge
    · rcases HA.out with ⟨h0, _⟩ | ⟨g, o, rfl, hg, hm⟩
      · omega
      rcases HB.out with ⟨h0, _⟩ | ⟨g', o', rfl, hg', hm'⟩
      · omega
      have hc := (HR.out.cell (p := ⟨g, o + i, none⟩) hg).trans (hm i (by rw [← HN.out]; exact hlt))
      have hc' := (HR.out.cell (p := ⟨g', o' + i, none⟩) hg').trans (hm' i (by rw [← HN.out]; exact hlt))
      have HX := Pl.hid hm
      have HX' := Pl.hid hm'
      clear hm hm'
      go_wp2_with fail
      go_quiet (fail)
      go_wp2_with fail
      go_roundw
      case rel => exact ⟨i + 1, by go_num, by omega, HR.out.trans (Mm.below_drewN _ _)⟩
      case measure => simp [intOf]; omega
    · go_wp2_with fail
      go_ret
      exact ⟨rfl, HR.out⟩
end Go.Proofs.YtgpbgldnaongnaaGreatDoor

namespace Go.Proofs.YtgpbgldnaongnaaGreatDoor
open Go.RowKit
set_option maxRecDepth 20000

namespace RT
theorem encH_ne (k : Int) (s : ByteArray) (n : Int) (ln : Nat) : encH k s n ln ≠ [] := by
  unfold encH
  (repeat' split) <;> simp [Pl.bulkE]
theorem co_cases (t : RT) : (t.code = 0 ∧ t.out = t.enc) ∨ (t.out = [] ∧ (t.code = 160 ∨ t.code = 161 ∨ t.code = 2)) := by
  unfold code out
  (repeat' split) <;> simp_all
theorem out_le (t : RT) : t.out.length ≤ 16777216 := by
  unfold out
  (repeat' split) <;> simp_all
end RT
namespace Mm
open Pl
/-- a wire above the parser p; c: is it closed and broken? -/
def WV (w : World) (q p : Nat) (ov : Value) (c : Bool) : Prop := w.heap[q]? = some (.cells #[.pointer (some ⟨p, 0, none⟩), ov, .bool c, .bool c] 51 (0, 0))
theorem WV.cell {w : World} {q p : Nat} {ov : Value} {c : Bool} (h : WV w q p ov c) (i : Nat) (v : Value) (hv : (#[.pointer (some ⟨p, 0, none⟩), ov, .bool c, .bool c] : Array Value)[i]? = some v) : w.cell? ⟨q, i, none⟩ = some v := by
  rw [cell_of_row w q i _ _ _ h]
  exact hv
theorem WV.lt {w : World} {q p : Nat} {ov : Value} {c : Bool} (h : WV w q p ov c) : q < w.heap.size := (Array.getElem?_eq_some_iff.1 h).1
theorem WV.keep {w w' : World} {q p : Nat} {ov : Value} {c : Bool} (h : WV w q p ov c) (hb : w'.heap[q]? = w.heap[q]?) : WV w' q p ov c := hb.trans h
/-- what a wire's Send may change -/
def wf (q : Nat) (ov : Value) (g : Nat) : Prop := g = q ∨ ov.ownBlock = some g
/-- '[]byte{}' -/
theorem ownB_empty (w : World) (b : Nat) (hb : b ≤ w.heap.size) : OwnB (w.alloc (.cells #[] 5)) b (.slice (some ⟨w.heap.size, 0, none⟩) 0 0) [] :=
  ⟨rfl, .inr ⟨w.heap.size, 0, #[], rfl, hb, heap_alloc_new w _, Nat.le_refl _, by unfold maxLen; omega, rfl, rfl⟩⟩
theorem OwnB.kept {w w' : World} {b : Nat} {v : Value} {l : List UInt8} (h : OwnB w b v l) (hb : Below w.heap.size w w') : OwnB w' b v l :=
  h.keep fun g hg => hb.block g (h.lt g hg).2
end Mm

theorem wvnew_walk (w : World) : Calls Tryz.prog 5 #[] w fun e w' => e = .returned (.pointer (some ⟨w.heap.size + 1, 0, none⟩)) ∧ Mm.WV w' (w.heap.size + 1) w.heap.size (.slice none 0 0) false ∧ Mm.PB w' w.heap.size [] Pl.fresh (fun g => g = w.heap.size) ∧ Below w.heap.size w w' ∧ w'.heap.size = w.heap.size + 2 := by
  go_enter Tryz.func5, Tryz.ntmps5
  go_wp2_with fail
  refine (pnew_walk w).mono ?_
  rintro e w1 ⟨rfl, hp, hz, hb⟩
  have HP := Pl.hid hp
  have HZ := Pl.hid hz
  have HB := Pl.hid hb
  clear hp hz hb
  go_wp2_with fail
  go_ret
  refine ⟨by rw [HZ.out]; rfl, ?_, ?_, HB.out.alloc HB.out.size _, by simp [HZ.out]⟩
  · unfold Mm.WV
    rw [← HZ.out]
    exact heap_alloc_new w1 _
  · exact HP.out.below ((Below.refl _ _).alloc (Nat.le_refl _) _)

theorem wvfeed_walk (q p : Nat) (v : Value) (b buf : List UInt8) (st : Pl.Pst) (G : Nat → Prop) (W w : World) (ov : Value) (hw : Mm.WV w q p ov false) (hq : ¬ G q) (hpW : W.heap.size ≤ p) (hR : Mm.RErr W) (hE : Mm.Errs W) (hI : Mm.InlE W) (hW : Below W.heap.size W w) (hl : b.length ≤ 16777216) (hbl : buf.length ≤ 16777216) (hv : Mm.Bs w v b)
    (hp : Mm.PB w p buf st G) (he : st.err = false) (hok : Pl.okP st) (U : Nat) (hb : Pl.bnd st U) (hU : U + buf.length + b.length ≤ 1099511627776) :
    Calls Tryz.prog 11 #[.pointer (some ⟨q, 0, none⟩), v] w fun e w' => e = .returned (.int .i64 0) ∧ Mm.WV w' q p ov false ∧ ∃ G', Mm.PB w' p (Pl.feedA st buf b).2 (Pl.feedA st buf b).1 G' ∧ Mm.Chg w G w' G' := by
  have q0 := hw.cell 0 _ rfl
  have q2 := hw.cell 2 _ rfl
  have HW := Pl.hid hw
  have HC := Pl.hid (feed_walk p v b buf st G W w hpW hR hE hI hW hl hbl hv hp he hok U hb hU)
  have HQ := Pl.hid hq
  clear hw hp hR hE hI hW hv he hok hb hq
  go_enter Tryz.func11, Tryz.ntmps11
  go_wp2_with fail
  refine HC.out.mono ?_
  rintro e w1 ⟨rfl, G', hp1, hc1⟩
  have HP1 := Pl.hid hp1
  have HC1 := Pl.hid hc1
  clear hp1 hc1 q0 q2
  go_wp2_with fail
  go_ret
  exact ⟨rfl, HW.out.keep (HC1.out.block q HW.out.lt HQ.out), G', HP1.out, HC1.out⟩

theorem wvfeed_closed (q p : Nat) (v : Value) (ov : Value) (w : World) (hw : Mm.WV w q p ov true) :
    Calls Tryz.prog 11 #[.pointer (some ⟨q, 0, none⟩), v] w fun e w' => e = .returned (.int .i64 260) ∧ w = w' := by
  have q2 := hw.cell 2 _ rfl
  clear hw
  go_enter Tryz.func11, Tryz.ntmps11
  go_wp2_with fail
  go_ret
  exact ⟨rfl, rfl⟩
theorem wvclosed_walk (q p : Nat) (ov : Value) (c : Bool) (w : World) (hw : Mm.WV w q p ov c) : Calls Tryz.prog 14 #[.pointer (some ⟨q, 0, none⟩)] w fun e w' => e = .returned (.bool c) ∧ w = w' := by
  have q2 := hw.cell 2 _ rfl
  clear hw
  go_enter Tryz.func14, Tryz.ntmps14
  go_wp2_with fail
  go_ret
  exact ⟨rfl, rfl⟩
theorem wvbroken_walk (q p : Nat) (ov : Value) (c : Bool) (w : World) (hw : Mm.WV w q p ov c) : Calls Tryz.prog 16 #[.pointer (some ⟨q, 0, none⟩)] w fun e w' => e = .returned (.bool c) ∧ w = w' := by
  have q2 := hw.cell 3 _ rfl
  clear hw
  go_enter Tryz.func16, Tryz.ntmps16
  go_wp2_with fail
  go_ret
  exact ⟨rfl, rfl⟩
theorem wvnext_closed (q p : Nat) (ov : Value) (w : World) (hw : Mm.WV w q p ov true) :
    Calls Tryz.prog 12 #[.pointer (some ⟨q, 0, none⟩)] w fun e w' => e = .returned (.tuple #[.slice none 0 0, .bool false]) ∧ w = w' := by
  have q2 := hw.cell 2 _ rfl
  clear hw
  go_enter Tryz.func12, Tryz.ntmps12
  go_wp2_with fail
  go_ret2
  exact ⟨rfl, rfl⟩
theorem wvsend_closed (q p : Nat) (ov : Value) (c0 c1 c2 c3 : Value) (w : World) (hw : Mm.WV w q p ov true) :
    Calls Tryz.prog 8 #[.pointer (some ⟨q, 0, none⟩), .agg #[c0, c1, c2, c3]] w fun e w' => e = .returned (.int .i64 260) ∧ Below w.heap.size w w' := by
  obtain ⟨w0, hw0⟩ : ∃ w0, w0 = w.alloc (.cells #[c0, c1, c2, c3] 25) := ⟨_, rfl⟩
  have HB0 : Hid (Below w.heap.size w w0) := by rw [hw0]; exact (Below.refl _ _).alloc (Nat.le_refl _) _
  have HW0eq := Pl.hid hw0
  have q2 : (w.alloc (.cells #[c0, c1, c2, c3] 25)).cell? ⟨q, 2, none⟩ = some (.bool true) := by
    rw [← hw0]
    exact (hw.keep (w' := w0) (HB0.out.block q hw.lt)).cell 2 _ rfl
  clear hw0 hw
  go_enter Tryz.func8, Tryz.ntmps8
  go_wp2_with fail
  rw [← HW0eq.out]
  go_ret
  exact ⟨rfl, HB0.out⟩

theorem errIs_some (T : TypeId) (x : Value) (w : World) : Calls Tryz.prog 33 #[.iface T x, .nilIface] w fun e w' => e = .returned (.bool false) ∧ w = w' := by
  go_enter Tryz.func33, Tryz.ntmps33
  go_wp2_with fail
  go_ret
  exact ⟨rfl, rfl⟩
theorem none_some (T : TypeId) (x : Value) (w : World) : Calls Tryz.prog 26 #[.iface T x] w fun e w' => e = .returned (.bool false) ∧ w = w' := by
  go_enter Tryz.func26, Tryz.ntmps26
  go_wp2_with fail
  refine (errIs_some T x w).mono ?_
  rintro e w1 ⟨rfl, rfl⟩
  go_wp2_with fail
  go_ret
  exact ⟨rfl, rfl⟩
theorem perr_c (p g o m : Nat) (st : Pl.Pst) (nb : Nat) (w : World) (h : Mm.PNc w p g o m st nb) :
    Calls Tryz.prog 27 #[.pointer (some ⟨p, 0, none⟩)] w fun e w' => (∃ ev, e = .returned ev ∧ Mm.ErrV st.err ev) ∧ w = w' := by
  obtain ⟨wv, ev, ba, bc, a, c, h1, h2, h3, h4⟩ := h
  have c7 := Mm.cellOf (i := 7) (v := ev) h1 rfl
  have H3 := Pl.hid h3
  clear h1 h2 h3 h4
  go_enter Tryz.func27, Tryz.ntmps27
  go_wp2_with fail
  go_ret
  exact ⟨⟨ev, rfl, H3.out⟩, rfl⟩
theorem wvnext_c (q p g o m : Nat) (va : Option Addr) (vn vc : Nat) (st : Pl.Pst) (nb : Nat) (w : World) (ov : Value) (hw : Mm.WV w q p ov false) (hqp : q ≠ p) (h : Mm.PNc w p g o (m + 1) st nb) (e0 : w.cell? ⟨g, o, none⟩ = some (.slice va vn vc)) :
    Calls Tryz.prog 12 #[.pointer (some ⟨q, 0, none⟩)] w fun e w' => e = .returned (.tuple #[.slice va vn vc, .bool true]) ∧ Mm.WV w' q p ov false ∧ Mm.PNc w' p g (o + 1) m st nb ∧ w.grownBy w' (some p) := by
  have q0 := hw.cell 0 _ rfl
  have q2 := hw.cell 2 _ rfl
  have HW := Pl.hid hw
  have HC := Pl.hid (pnext_c p g o m va vn vc st nb w h e0)
  have HQP := Pl.hid hqp
  clear hw h e0 hqp
  go_enter Tryz.func12, Tryz.ntmps12
  go_wp2_with fail
  refine HC.out.mono ?_
  rintro e w1 ⟨rfl, hp1, hg1⟩
  have HP1 := Pl.hid hp1
  have HG1 := Pl.hid hg1
  clear hp1 hg1 q0 q2
  go_wp2_with fail
  go_ret2
  exact ⟨rfl, HW.out.keep (HG1.out.block q HW.out.lt (fun e => by injection e with e; exact HQP.out e)), HP1.out, HG1.out⟩

theorem eql_nil (w : World) : (binOp BinOp.eql 23 (.slice none 0 0) (.slice none 0 0)).run Tryz.prog w = .ok (.bool true) w := by rfl
theorem eql_some (w : World) (g n c : Nat) : (binOp BinOp.eql 23 (.slice (some ⟨g, 0, none⟩) n c) (.slice none 0 0)).run Tryz.prog w = .ok (.bool false) w := by rfl
/-- slices.Clone of bytes that are owned by another -/
theorem clone_own (b : Nat) (v : Value) (l : List UInt8) (w : World) (h : Mm.OwnB w b v l) (hl : l.length ≤ 1099511627776) :
    Calls Tryz.prog 23 #[v] w fun e w' => ∃ v', e = .returned v' ∧ Mm.OwnB w' w.heap.size v' l ∧ Below w.heap.size w w' := by
  obtain ⟨a, c, rfl, h0 | ⟨g, rfl, _, hg, hc⟩⟩ := h.val
  · obtain ⟨h1, rfl, rfl⟩ := h0
    obtain rfl : l = [] := List.eq_nil_of_length_eq_zero h1
    clear h
    show Calls _ _ #[.slice none 0 0] _ _
    have he := eql_nil w
    go_enter Tryz.func23, Tryz.ntmps23
    go_wp2_with fail
    go_ret
    exact ⟨_, rfl, Mm.ownB_nil _ _, Below.refl _ _⟩
  · have HB0 := Pl.hid ((Below.refl w.heap.size w).alloc (Nat.le_refl _) (.cells #[] 5))
    have HO0 := Pl.hid (Mm.ownB_empty w w.heap.size (Nat.le_refl _))
    have HS := Pl.hid (h.kept HB0.out).bs
    have hz : w.heap.size ≤ (w.alloc (.cells #[] 5)).heap.size := HB0.out.size
    have hll : ([] : List UInt8).length + l.length ≤ 140737488355328 := by simp; omega
    have he := eql_some w g l.length c
    clear h hg hc
    go_enter Tryz.func23, Tryz.ntmps23
    go_wp2_with (at_builtin; refine Mm.wp_appW _ rfl _ _ (by rfl) w.heap.size _ [] (by rfl) HO0.out _ l (by rfl) HS.out hll hz ?_; intro v5 w5 ho5 hg5 hat5; have HO5 := Pl.hid ho5; have HG5 := Pl.hid hg5; clear ho5 hg5 hat5)
    go_ret
    exact ⟨_, rfl, HO5.out, HB0.out.grown HG5.out hz (fun k hk => (HO0.out.lt k hk).1)⟩
theorem wvoutput_walk (q p : Nat) (c : Bool) (ov : Value) (b : Nat) (l : List UInt8) (w : World) (hw : Mm.WV w q p ov c) (h : Mm.OwnB w b ov l) (hl : l.length ≤ 1099511627776) :
    Calls Tryz.prog 10 #[.pointer (some ⟨q, 0, none⟩)] w fun e w' => ∃ v', e = .returned v' ∧ Mm.OwnB w' w.heap.size v' l ∧ Below w.heap.size w w' := by
  have q1 := hw.cell 1 _ rfl
  have HC := Pl.hid (clone_own b ov l w h hl)
  clear hw h
  go_enter Tryz.func10, Tryz.ntmps10
  go_wp2_with fail
  refine HC.out.mono ?_
  rintro e w1 ⟨v1, rfl, ho1, hw1⟩
  have HO := Pl.hid ho1
  have HW := Pl.hid hw1
  clear ho1 hw1 q1
  go_wp2_with fail
  go_ret
  exact ⟨_, rfl, HO.out, HW.out⟩

set_option maxHeartbeats 4000000 in
/-- a reply is sent -/
theorem wvsend_walk (W : World) (hT : Mm.Tab W) (t : RT) (hin : t.In) (hsz : t.sz ≤ 1073741824) (c0 c1 c2 c3 : Value) (hX : Mm.RepY W t [c0, c1, c2, c3]) (B q p : Nat) (ov : Value) (l : List UInt8) (w : World) (hW : Below W.heap.size W w)
    (hw : Mm.WV w q p ov false) (ho : Mm.OwnB w B ov l) (hB : B ≤ w.heap.size) (hqB : q < B) (hl : l.length ≤ 1099511627776) :
    Calls Tryz.prog 8 #[.pointer (some ⟨q, 0, none⟩), .agg #[c0, c1, c2, c3]] w fun e w' => e = .returned (.int .i64 t.code) ∧ ∃ ov', Mm.WV w' q p ov' false ∧ Mm.OwnB w' B ov' (l ++ t.out) ∧ Mm.Chg w (Mm.wf q ov) w' (Mm.wf q ov') := by
  obtain ⟨x, hx⟩ : ∃ x, x = w.heap.size := ⟨_, rfl⟩
  obtain ⟨w0, hw0⟩ : ∃ w0, w0 = w.alloc (.cells #[c0, c1, c2, c3] 25) := ⟨_, rfl⟩
  have HB0 : Hid (Below w.heap.size w w0) := by rw [hw0]; exact (Below.refl _ _).alloc (Nat.le_refl _) _
  have hk : ∀ i u, (#[c0, c1, c2, c3] : Array Value)[i]? = some u → (w.alloc (.cells #[c0, c1, c2, c3] 25)).cell? ⟨w.heap.size, i, none⟩ = some u := fun i u hu => by
    rw [World.cell?_alloc_mark]; exact hu
  have k0 := hk 0 _ rfl
  have k1 := hk 1 _ rfl
  have k2 := hk 2 _ rfl
  have k3 := hk 3 _ rfl
  have hone := hX.one
  have o0 := hone c0 (by simp)
  have o1 := hone c1 (by simp)
  have o2 := hone c2 (by simp)
  have o3 := hone c3 (by simp)
  have HW0eq := Pl.hid hw0
  have HXeq := Pl.hid hx
  have HW0 := Pl.hid (hw.keep (w' := w0) (HB0.out.block q hw.lt))
  have HQL := Pl.hid hw.lt
  have HO := Pl.hid ho
  have HE := Pl.hid (encode_walk W hT t hin hsz c0 c1 c2 c3 hX w0 (hW.trans (HB0.out.mono hW.size)))
  have HOL := Pl.hid (RT.out_le t)
  have q2 : (w.alloc (.cells #[c0, c1, c2, c3] 25)).cell? ⟨q, 2, none⟩ = some (.bool false) := by
    rw [← HW0eq.out]
    exact HW0.out.cell 2 _ rfl
  have HCO := Pl.hid (RT.co_cases t)
  clear hw0 hx hk hw hX ho hT hin hsz hW hone
  obtain ⟨C, hC⟩ : ∃ C, C = t.code := ⟨_, rfl⟩
  obtain ⟨O, hO⟩ : ∃ O, O = t.out := ⟨_, rfl⟩
  rw [← hC, ← hO] at HE HCO
  rw [← hO] at HOL
  rw [← hC, ← hO]
  clear hC hO
  have HBase : Hid (B ≤ w.heap.size) := hB
  rcases HCO.out with ⟨rfl, hO⟩ | ⟨rfl, hC⟩
  · clear HCO hO
    go_enter Tryz.func8, Tryz.ntmps8
    go_wp2_with fail
    rw [← HW0eq.out]
    refine HE.out.mono ?_
    rintro e w1 ⟨v1, rfl, ho1, hb1⟩
    have HO1 := Pl.hid ho1
    have HB1 := Pl.hid (HB0.out.trans (hb1.mono HB0.out.size))
    have HW1 := Pl.hid (HW0.out.keep (w' := w1) (hb1.block q HW0.out.lt))
    have HOW := Pl.hid (HO.out.kept HB1.out)
    have q1 := HW1.out.cell 1 _ rfl
    have hsz1 : B ≤ w1.heap.size := Nat.le_trans HBase.out HB1.out.size
    have hll : l.length + O.length ≤ 140737488355328 := by have := HOL.out; omega
    have hql := HW1.out.lt
    obtain ⟨a1, n1, c1', rfl⟩ : ∃ a n c, v1 = .slice a n c := by
      obtain ⟨a, c, e, _⟩ := ho1.val
      exact ⟨_, _, _, e⟩
    clear ho1 hb1 q2 k0 k1 k2 k3
    go_wp2_with (first
      | (at_builtin; refine Mm.wp_appW w1 rfl _ _ (by rfl) B ov l (by rfl) HOW.out _ O (by rfl) HO1.out.bs hll hsz1 ?_; intro v5 w5 ho5 hg5 hat5; obtain ⟨a5, n5, k5, rfl⟩ : ∃ a n c, v5 = .slice a n c := by { obtain ⟨a, c, e, _⟩ := ho5.val; exact ⟨_, _, _, e⟩ }; have HO5 := Pl.hid ho5; have HG5 := Pl.hid hg5; have HAT5 := Pl.hid hat5; have HW5 := Pl.hid (HW1.out.keep (w' := w5) (hg5.block q hql (fun e => by have := (HOW.out.lt q e.symm).1; omega))); clear ho5 hg5 hat5)
      | (refine Mm.wp_storeF _ rfl 23 _ _ (by rfl) (by kernel_rfl) q 1 51 _ _ HW5.out (by rfl) (by rfl) (by simp) rfl rfl ?_; intro w6 h6 hz6 hg6; have H6 := Pl.hid h6; have HG6 := Pl.hid hg6; clear h6 hz6 hg6))
    go_ret
    refine ⟨rfl, _, H6.out, HO5.out.keep fun g hg => HG6.out.block g (HO5.out.lt g hg).2 (fun e => by injection e with e; have := (HO5.out.lt g hg).1; omega), ?_⟩
    refine ⟨HG6.out.os.trans (HG5.out.os.trans HB1.out.os), HG6.out.tape.trans (HG5.out.tape.trans HB1.out.tape), HG6.out.output.trans (HG5.out.output.trans HB1.out.output), Nat.le_trans HB1.out.size (Nat.le_trans HG5.out.size HG6.out.size), fun g hg hf => ?_, fun g hg => ?_⟩
    · have g1 : g < w1.heap.size := Nat.lt_of_lt_of_le hg HB1.out.size
      have g5 : g < w5.heap.size := Nat.lt_of_lt_of_le g1 HG5.out.size
      exact (HG6.out.block g g5 (fun e => by injection e with e; exact hf (.inl e))).trans ((HG5.out.block g g1 (fun e => hf (.inr e.symm))).trans (HB1.out.block g hg))
    · rcases hg with rfl | hg
      · exact .inl (.inl rfl)
      · rcases HAT5.out with h | h
        · exact .inl (.inr (h.symm.trans hg))
        · have hg' : some w1.heap.size = some g := h.symm.trans hg
          injection hg' with hg'
          exact .inr (by have := HB1.out.size; omega)
  · clear HCO
    have hC0 : (C != 0) = true := by rcases hC with rfl | rfl | rfl <;> rfl
    have HR : Hid (∀ {w1 : World}, Below w0.heap.size w0 w1 → ∃ ov', Mm.WV w1 q p ov' false ∧ Mm.OwnB w1 B ov' (l ++ []) ∧ Mm.Chg w (Mm.wf q ov) w1 (Mm.wf q ov')) := fun {w1} hb1 => by
      have hb := HB0.out.trans (hb1.mono HB0.out.size)
      exact ⟨ov, HW0.out.keep (hb1.block q HW0.out.lt), by rw [List.append_nil]; exact HO.out.kept hb, .below hb⟩
    rcases hC with rfl | rfl | rfl
    all_goals
      clear hC0
      go_enter Tryz.func8, Tryz.ntmps8
      go_wp2_with fail
      rw [← HW0eq.out]
      refine HE.out.mono ?_
      rintro e w1 ⟨v1, rfl, ho1, hb1⟩
      have HB1 := Pl.hid hb1
      clear ho1 hb1 q2 k0 k1 k2 k3
      go_wp2_with fail
      go_ret
      exact ⟨rfl, HR.out HB1.out⟩
end Go.Proofs.YtgpbgldnaongnaaGreatDoor

namespace Go.Proofs.YtgpbgldnaongnaaGreatDoor
open Go.RowKit
set_option maxRecDepth 20000

namespace Pl
def txB : ByteArray := ⟨#[69, 82, 82, 32, 116, 104, 105, 115, 32, 105, 115, 32, 110, 111, 32, 114, 101, 113, 117, 101, 115, 116]⟩
def txL : List UInt8 := [45, 69, 82, 82, 32, 116, 104, 105, 115, 32, 105, 115, 32, 110, 111, 32, 114, 101, 113, 117, 101, 115, 116, 13, 10]
def pongL : List UInt8 := [43, 80, 79, 78, 71, 13, 10]
theorem tx_err : errT ⟨#[69, 82, 82, 32, 116, 104, 105, 115, 32, 105, 115, 32, 110, 111, 32, 114, 101, 113, 117, 101, 115, 116]⟩ = ⟨#[69, 82, 82, 32, 116, 104, 105, 115, 32, 105, 115, 32, 110, 111, 32, 114, 101, 113, 117, 101, 115, 116]⟩ := by decide +kernel
def wak30L : List UInt8 := [71, 69, 84, 32, 107, 13, 10]
theorem wak30_feed : feedA fresh [] wak30L = ({ fresh with ready := [[[71, 69, 84], [107]]] }, []) := by decide +kernel
end Pl
namespace RT
theorem null_t : (RT.mk 5 ⟨#[]⟩ 0 []).code = 0 ∧ (RT.mk 5 ⟨#[]⟩ 0 []).out = [36, 45, 49, 13, 10] := by decide +kernel
theorem pong_t : (RT.mk 1 ⟨#[80, 79, 78, 71]⟩ 0 []).code = 0 ∧ (RT.mk 1 ⟨#[80, 79, 78, 71]⟩ 0 []).out = Pl.pongL := by decide +kernel
theorem tx_t : (RT.mk 2 ⟨#[69, 82, 82, 32, 116, 104, 105, 115, 32, 105, 115, 32, 110, 111, 32, 114, 101, 113, 117, 101, 115, 116]⟩ 0 []).code = 0 ∧ (RT.mk 2 ⟨#[69, 82, 82, 32, 116, 104, 105, 115, 32, 105, 115, 32, 110, 111, 32, 114, 101, 113, 117, 101, 115, 116]⟩ 0 []).out = Pl.txL := by decide +kernel
theorem leaf_in (k : Int) (s : ByteArray) : (RT.mk k s 0 []).In := .mk _ _ _ _ (by unfold Pl.In64; omega) (fun t ht => by cases ht)
end RT

set_option maxHeartbeats 4000000 in
/-- the bytes are no request: the error goes out, the wire is closed and broken -/
theorem wvnext_bad (W : World) (hT : Mm.Tab W) (hX : Mm.MaxI W) (B q p g o : Nat) (st : Pl.Pst) (nb : Nat) (ov : Value) (l : List UInt8) (w : World) (hW : Below W.heap.size W w) (hw : Mm.WV w q p ov false) (h : Mm.PNc w p g o 0 st nb) (he : st.err = true)
    (ho : Mm.OwnB w B ov l) (hB : B ≤ w.heap.size) (hqB : q < B) (hl : l.length ≤ 1099511627776) :
    Calls Tryz.prog 12 #[.pointer (some ⟨q, 0, none⟩)] w fun e w' => e = .returned (.tuple #[.slice none 0 0, .bool false]) ∧ ∃ ov', Mm.WV w' q p ov' true ∧ Mm.OwnB w' B ov' (l ++ Pl.txL) ∧ Mm.Chg w (Mm.wf q ov) w' (Mm.wf q ov') := by
  have q0 := hw.cell 0 _ rfl
  have q2 := hw.cell 2 _ rfl
  have HP := Pl.hid h
  have He := Pl.hid he
  have HW := Pl.hid hw
  have HM := Pl.hid (mk_error ⟨#[69, 82, 82, 32, 116, 104, 105, 115, 32, 105, 115, 32, 110, 111, 32, 114, 101, 113, 117, 101, 115, 116]⟩ w (hX.on hW) (by decide))
  rw [Pl.tx_err] at HM
  have HS : Hid (∀ w1, Below w.heap.size w w1 → Calls Tryz.prog 8 #[.pointer (some ⟨q, 0, none⟩), .agg #[.int .i64 2, .string ⟨#[69, 82, 82, 32, 116, 104, 105, 115, 32, 105, 115, 32, 110, 111, 32, 114, 101, 113, 117, 101, 115, 116]⟩, .int .i64 0, .slice none 0 0]] w1 fun e w' => e = .returned (.int .i64 0) ∧ ∃ ov', Mm.WV w' q p ov' false ∧ Mm.OwnB w' B ov' (l ++ Pl.txL) ∧ Mm.Chg w1 (Mm.wf q ov) w' (Mm.wf q ov')) := fun w1 hb => by
    have hs := wvsend_walk W hT (RT.mk 2 ⟨#[69, 82, 82, 32, 116, 104, 105, 115, 32, 105, 115, 32, 110, 111, 32, 114, 101, 113, 117, 101, 115, 116]⟩ 0 []) (RT.leaf_in _ _) (by rw [RT.sz_mk]; decide) _ _ _ _ (Mm.RepY.leaf W 2 _ 0) B q p ov l w1 (hW.trans (hb.mono hW.size)) (hw.keep (hb.block q hw.lt)) (ho.kept hb) (Nat.le_trans hB hb.size) hqB hl
    rw [RT.tx_t.1, RT.tx_t.2] at hs
    exact hs
  have HQB : Hid (q < B) := hqB
  clear hw h he hT hX ho hW hl
  go_enter Tryz.func12, Tryz.ntmps12
  go_wp2_with fail
  refine (pnext_c0 p g o st nb w HP.out).mono ?_
  rintro e w1 ⟨rfl, rfl⟩
  go_wp2_with fail
  refine (perr_c p g o 0 st nb _ HP.out).mono ?_
  rintro e w2 ⟨⟨ev, rfl, hev⟩, rfl⟩
  obtain ⟨T, x, rfl⟩ : ∃ T x, ev = .iface T x := by
    rcases hev with ⟨_, h⟩ | ⟨h, _⟩
    · exact h
    · rw [He.out] at h; cases h
  clear hev
  go_wp2_with fail
  refine (none_some T x _).mono ?_
  rintro e w3 ⟨rfl, rfl⟩
  go_wp2_with fail
  refine HM.out.mono ?_
  rintro e w4 ⟨rfl, hb4⟩
  have HB4 := Pl.hid hb4
  clear hb4 q0 q2
  go_wp2_with fail
  refine (HS.out w4 HB4.out).mono ?_
  rintro e w5 ⟨rfl, ov', hw5, ho5, hc5⟩
  have HW5 := Pl.hid hw5
  have HO5 := Pl.hid ho5
  have HC5 := Pl.hid hc5
  clear hw5 ho5 hc5
  go_wp2_with (first
    | (refine Mm.wp_storeF _ rfl 4 _ _ (by rfl) (by kernel_rfl) q 2 51 _ _ HW5.out (by rfl) (by rfl) (by simp) rfl rfl ?_; intro w6 h6 hz6 hg6; have H6 := Pl.hid h6; have HG6 := Pl.hid hg6; clear h6 hz6 hg6)
    | (refine Mm.wp_storeF _ rfl 4 _ _ (by rfl) (by kernel_rfl) q 3 51 _ _ H6.out (by rfl) (by rfl) (by simp) rfl rfl ?_; intro w7 h7 hz7 hg7; have H7 := Pl.hid h7; have HG7 := Pl.hid hg7; clear h7 hz7 hg7))
  go_ret2
  have hg := Mm.gTrans HG6.out HG7.out
  refine ⟨rfl, ov', H7.out, HO5.out.keep fun g hg' => hg.block g (HO5.out.lt g hg').2 (fun e => by injection e with e; have := (HO5.out.lt g hg').1; have := HQB.out; omega), ?_⟩
  exact (Mm.Chg.below HB4.out).trans (HC5.out.trans (Mm.Chg.grown hg (fun g e => by injection e with e; exact .inl e.symm) (fun _ h => .inl h)))

set_option maxHeartbeats 4000000 in
theorem same30_eq (va vb : Value) (l : List (List UInt8)) (w : World) (hl : l.length ≤ 140737488351232) (ha : Mm.RowT w va l) (hb : Mm.RowT w vb l) :
    Calls Tryz.prog 13 #[va, vb] w fun e w' => e = .returned (.bool true) ∧ Below w.heap.size w w' := by
  obtain ⟨pa, ca, rfl, ha1, ha⟩ := ha
  obtain ⟨pb, cb, rfl, hb1, hb⟩ := hb
  obtain ⟨n, hn⟩ : ∃ n, n = l.length := ⟨_, rfl⟩
  rw [← hn] at ha hb hl ha1 hb1 ⊢
  have HA := Pl.hid ha
  have HB := Pl.hid hb
  have HN := Pl.hid hn
  clear ha hb hn
  go_enter Tryz.func13, Tryz.ntmps13
  go_wp2_with fail
  go_loopw [5] (fun iv wr => ∃ i : Nat, iv = .int .i64 i ∧ i ≤ n ∧ Hid (Below w.heap.size w wr)) (fun iv _ => n - (intOf iv).toNat)
  case atStart => exact ⟨0, rfl, Nat.zero_le _, Below.refl _ _⟩
  case round =>
    obtain ⟨i, rfl, hi, HR⟩ := hrel
    rcases Nat.lt_or_ge i n with hlt | hge
    · obtain ⟨g, o, rfl, hm⟩ := HA.out (by omega)
      obtain ⟨g', o', rfl, hm'⟩ := HB.out (by omega)
      obtain ⟨s, hs⟩ : ∃ s, l[i]? = some s := ⟨_, List.getElem?_eq_getElem (by rw [← HN.out]; exact hlt)⟩
      have hc0 := hm i s hs
      have hc0' := hm' i s hs
      have hc := (HR.out.cell (p := ⟨g, o + i, none⟩) (World.block_lt_of_cell? _ _ hc0)).trans hc0
      have hc' := (HR.out.cell (p := ⟨g', o' + i, none⟩) (World.block_lt_of_cell? _ _ hc0')).trans hc0'
      clear hm hm' hc0 hc0' hs
      go_wp2_with fail
      go_quiet (fail)
      go_wp2_with fail
      go_roundw
      case rel => exact ⟨i + 1, by go_num, by omega, HR.out.trans (Mm.below_drewN _ _)⟩
      case measure => simp [intOf]; omega
    · go_wp2_with fail
      go_ret
      exact ⟨rfl, HR.out⟩

set_option maxHeartbeats 4000000 in
theorem wakes30_walk (W w : World) (hT : Mm.Tab W) (hR : Mm.RErr W) (hE : Mm.Errs W) (hI : Mm.InlE W) (hW : Below W.heap.size W w) :
    Calls Tryz.prog 4 #[] w fun e w' => e = .returned (.bool true) ∧ Below w.heap.size w w' := by
  have HT := Pl.hid hT
  have HR := Pl.hid hR
  have HE := Pl.hid hE
  have HI := Pl.hid hI
  have HW := Pl.hid hW
  have HWs := Pl.hid hW.size
  clear hR hE hI hW hT
  go_enter Tryz.func4, Tryz.ntmps4
  go_wp2_with fail
  refine (wvnew_walk w).mono ?_
  rintro e w1 ⟨rfl, hw1, hp1, hb1, hz1⟩
  obtain ⟨p, hp⟩ : ∃ p, p = w.heap.size := ⟨_, rfl⟩
  obtain ⟨q, hq⟩ : ∃ q, q = w.heap.size + 1 := ⟨_, rfl⟩
  rw [← hq] at hw1 ⊢
  rw [← hp] at hp1 hw1
  have HQP : Hid (q ≠ p) := by show _ ≠ _; omega
  have HPE : Hid (p = w.heap.size ∧ q = w.heap.size + 1) := ⟨hp, hq⟩
  have HP1 := Pl.hid hp1
  have HW1 := Pl.hid hw1
  have HB1 := Pl.hid hb1
  have HZ1 := Pl.hid hz1
  obtain ⟨wz, hwz⟩ : ∃ wz, wz = w1.alloc (.cells (Pl.bytesV Pl.wak30L).toArray 5 (7, 8)) := ⟨_, rfl⟩
  have HCV : Hid ((convert 23 23 (.slice (some ⟨w1.heap.size, 0, none⟩) 7 7)).run Tryz.prog (w1.alloc (.cells #[.int .u8 71, .int .u8 69, .int .u8 84, .int .u8 32, .int .u8 107, .int .u8 13, .int .u8 10] 5)) = .ok (.slice (some ⟨w1.heap.size, 0, none⟩) 7 7) wz) := by
    show _ = _
    rw [hwz]
    exact Lib.run_convert_bytes_const w1 _ _ _ 7 7 Tryz.underlying23 Tryz.underlying5
  have HBS : Hid (Mm.Bs wz (.slice (some ⟨w1.heap.size, 0, none⟩) 7 7) Pl.wak30L) := by rw [hwz]; exact Mm.bs_alloc w1 Pl.wak30L _ 7 rfl
  have HA : Hid (Below w1.heap.size w1 wz) := by rw [hwz]; exact (Below.refl _ _).alloc (Nat.le_refl _) _
  have HBZ : Hid (Below w.heap.size w wz) := HB1.out.trans (HA.out.mono HB1.out.size)
  have HWA : Hid (Below W.heap.size W wz) := HW.out.trans (HBZ.out.mono HWs.out)
  have HPZ : Hid (Mm.PB wz p [] Pl.fresh (fun g => g = p)) := HP1.out.below HA.out
  have HWZ := Pl.hid (HW1.out.keep (w' := wz) (HA.out.block q HW1.out.lt))
  have hcv := HCV.out
  clear hp1 hw1 hb1 hwz hp hq hz1
  go_wp2_with fail
  refine (wvfeed_walk q p _ Pl.wak30L [] Pl.fresh _ W wz _ HWZ.out (fun h => HQP.out h) (by have := HPE.out; have := HWs.out; omega) HR.out HE.out HI.out HWA.out (by decide) (by decide) HBS.out HPZ.out rfl Pl.okP_fresh 0 (by unfold Pl.bnd Pl.fresh; simp) (by decide)).mono ?_
  rw [Pl.wak30_feed]
  rintro e w2 ⟨rfl, hw2, G2, hp2, hc2⟩
  obtain ⟨g, o, hpc, hne, hrows⟩ := hp2.asked.cells
  obtain ⟨vi, hci, hoi⟩ := hrows 0 _ rfl
  obtain ⟨va, vc, rfl, _⟩ := hoi.val
  have HB2 : Hid (Below w.heap.size w w2) := hc2.under0 (Nat.le_refl _) HBZ.out (fun g hg => by have hg' : g = p := hg; have := HPE.out; omega)
  have HPC := Pl.hid hpc
  have HCI := Pl.hid hci
  have HOI := Pl.hid hoi
  have HW2 := Pl.hid hw2
  clear hp2 hc2 hcv hpc hne hrows hci hoi hw2
  go_wp2_with fail
  refine (wvnext_c q p g o 0 va _ vc _ 0 w2 _ HW2.out HQP.out HPC.out HCI.out).mono ?_
  rintro e w3 ⟨rfl, hw3, hp3, hg3⟩
  have HO3 := Pl.hid (HOI.out.st hg3)
  have HW3 := Pl.hid hw3
  have HB3 : Hid (Below w.heap.size w w3) := HB2.out.grown hg3 HB2.out.size (fun k hk => by injection hk with hk; have := HPE.out; omega)
  clear hw3 hp3 hg3
  go_wp2_with fail
  refine (same30_eq _ _ [[71, 69, 84], [107]] _ (by decide) (HO3.out.below ((Below.refl _ _).alloc (Nat.le_refl _) _)).rowT (Mm.rowT_alloc w3 [[71, 69, 84], [107]] 2 rfl)).mono ?_
  rintro e w4 ⟨rfl, hb4⟩
  have HB34 : Hid (Below w3.heap.size w3 w4) := ((Below.refl _ _).alloc (Nat.le_refl _) _).trans (hb4.mono (by simp))
  have HW4 := Pl.hid (HW3.out.keep (w' := w4) (HB34.out.block q HW3.out.lt))
  have HB4 := Pl.hid (HB3.out.trans (HB34.out.mono HB3.out.size))
  clear hb4
  go_wp2_with fail
  refine (mk_null w4).mono ?_
  rintro e w5 ⟨rfl, hb5⟩
  have HW5 := Pl.hid (HW4.out.keep (w' := w5) (hb5.block q HW4.out.lt))
  have HB5 := Pl.hid (HB4.out.trans (hb5.mono HB4.out.size))
  have hs := wvsend_walk W HT.out (RT.mk 5 ⟨#[]⟩ 0 []) (RT.leaf_in _ _) (by rw [RT.sz_mk]; decide) _ _ _ _ (Mm.RepY.leaf W 5 _ 0) (q + 1) q p (.slice none 0 0) [] w5 (HW.out.trans (HB5.out.mono HWs.out)) HW5.out (Mm.ownB_nil _ _) (by have := HW5.out.lt; omega) (Nat.lt_succ_self _) (by decide)
  rw [RT.null_t.1, RT.null_t.2] at hs
  have HS := Pl.hid hs
  clear hb5 hs
  go_wp2_with fail
  refine HS.out.mono ?_
  rintro e w6 ⟨rfl, ov, hw6, ho6, hc6⟩
  have HW6 := Pl.hid hw6
  have HO6 := Pl.hid ho6
  have HB6 : Hid (Below w.heap.size w w6) := hc6.under0 (Nat.le_refl _) HB5.out (fun g hg => by
    rcases hg with rfl | hg
    · have := HPE.out; omega
    · cases hg)
  clear hw6 ho6 hc6
  go_wp2_with fail
  refine (wvoutput_walk q p false ov (q + 1) [36, 45, 49, 13, 10] w6 HW6.out HO6.out (by decide)).mono ?_
  rintro e w7 ⟨v7, rfl, ho7, hb7⟩
  have hcv7 : (convert 23 9 v7).run Tryz.prog w7 = .ok (.string ⟨#[36, 45, 49, 13, 10]⟩) w7 := Mm.run_str w7 _ v7 _ ho7
  have HB7 := Pl.hid (HB6.out.trans (hb7.mono HB6.out.size))
  clear ho7 hb7
  go_wp2_with fail
  go_ret
  exact ⟨rfl, HB7.out⟩
end Go.Proofs.YtgpbgldnaongnaaGreatDoor

namespace Go.Proofs.YtgpbgldnaongnaaGreatDoor
open Go.RowKit
set_option maxRecDepth 20000

namespace Mm
/-- four cells that read as a reply, to a depth -/
def RepOK (W : World) : Nat → List Value → Prop
  | 0, _ => False
  | f + 1, cs => ∃ (k : Int) (s : ByteArray) (n : Int) (a : Option Addr) (len cap : Nat), cs = [.int .i64 k, .string s, .int .i64 n, .slice a len cap] ∧ len ≤ 9223372036854775807 ∧
      (len = 0 ∨ ∃ b o, a = some ⟨b, o, none⟩ ∧ b < W.heap.size ∧ ∀ i, i < len → ∃ c0 c1 c2 c3, W.cell? ⟨b, o + i * 4, none⟩ = some c0 ∧ W.cell? ⟨b, o + i * 4 + 1, none⟩ = some c1 ∧ W.cell? ⟨b, o + i * 4 + 2, none⟩ = some c2 ∧ W.cell? ⟨b, o + i * 4 + 3, none⟩ = some c3 ∧ RepOK W f [c0, c1, c2, c3])
end Mm

theorem within_walk (W : World) : ∀ (f : Nat) (cs : List Value), Mm.RepOK W f cs → ∀ (deep : Int) (w : World), 0 ≤ deep → deep ≤ 65536 → Below W.heap.size W w →
    Calls Tryz.prog 19 #[.agg cs.toArray, .int .i64 deep] w fun e w' => (∃ b, e = .returned (.bool b)) ∧ Below w.heap.size w w'
  | 0, _, h, _, _, _, _, _ => h.elim
  | f + 1, cs, h, deep, w, d0, d1, hb => by
    obtain ⟨k, s, n, a, len, cap, rfl, hlen, hel⟩ := h
    have IH := Pl.hid (within_walk W f)
    have HB := Pl.hid hb
    have HEL := Pl.hid hel
    clear hb hel
    go_enter Tryz.func19, Tryz.ntmps19
    go_wp2_with fail
    generalize hw1 : World.alloc w _ = w1
    have hc1 : w1.cell? ⟨w.heap.size, 3, none⟩ = some (.slice a len cap) := by rw [← hw1, World.cell?_alloc_mark]; rfl
    have HC1 := Pl.hid hc1
    have HS1 : Hid (w1.heap.size = w.heap.size + 1) := by show _ = _; rw [← hw1]; simp
    have HB1 : Hid (Below w.heap.size w w1) := by rw [← hw1]; exact (Below.refl _ _).alloc (Nat.le_refl _) _
    clear hw1 hc1
    obtain ⟨D, hD⟩ : ∃ D, D = decide (deep < 65536) := ⟨_, rfl⟩
    rw [← hD]
    have HD0 : Hid (D = true → deep < 65536) := fun h => of_decide_eq_true (hD.symm.trans h)
    clear hD
    go_loopw [5, 6] (fun bv iv wr => ∃ (b : Bool) (i : Nat), bv = .bool b ∧ iv = .int .i64 i ∧ i ≤ len ∧ Hid (b = true → deep < 65536) ∧ Hid (Below w1.heap.size w1 wr)) (fun _ iv _ => len - (intOf iv).toNat)
    case atStart => exact ⟨_, 0, rfl, rfl, Nat.zero_le _, HD0, Below.refl _ _⟩
    case round =>
      obtain ⟨b, i, rfl, rfl, hi, HD, HR⟩ := hrel
      have hcr : wr.cell? ⟨w.heap.size, 3, none⟩ = some (.slice a len cap) := (HR.out.cell (p := ⟨w.heap.size, 3, none⟩) (by rw [HS1.out]; exact Nat.lt_succ_self _)).trans HC1.out
      have HFin : Hid (Below w.heap.size w wr) := HB1.out.trans (HR.out.mono HB1.out.size)
      rcases Nat.lt_or_ge i len with hlt | hge
      · cases b with
        | false =>
          go_wp2_with fail
          go_ret
          exact ⟨⟨_, rfl⟩, HFin.out⟩
        | true =>
          have hd : deep < 65536 := HD.out rfl
          rcases HEL.out with h0 | ⟨bl, o, rfl, hbl, hel⟩
          · omega
          obtain ⟨c0, c1, c2, c3, e0, e1, e2, e3, hrep⟩ := hel i hlt
          have HBW : Hid (Below W.heap.size W wr) := HB.out.trans (HFin.out.mono HB.out.size)
          have f0 : wr.cell? ⟨bl, o + i * 4, none⟩ = some c0 := (HBW.out.cell (p := ⟨bl, o + i * 4, none⟩) hbl).trans e0
          have f1 : wr.cell? ⟨bl, o + i * 4 + 1, none⟩ = some c1 := (HBW.out.cell (p := ⟨bl, o + i * 4 + 1, none⟩) hbl).trans e1
          have f2 : wr.cell? ⟨bl, o + i * 4 + 2, none⟩ = some c2 := (HBW.out.cell (p := ⟨bl, o + i * 4 + 2, none⟩) hbl).trans e2
          have f3 : wr.cell? ⟨bl, o + i * 4 + 3, none⟩ = some c3 := (HBW.out.cell (p := ⟨bl, o + i * 4 + 3, none⟩) hbl).trans e3
          have HREP := Pl.hid hrep
          clear e0 e1 e2 e3 hrep hel
          go_wp2_with fail
          refine (IH.out _ HREP.out (deep + 1) _ (by omega) (by omega) HBW.out).mono ?_
          rintro e w2 ⟨⟨b2, rfl⟩, hb2⟩
          have H2 : Hid (Below w1.heap.size w1 w2) := HR.out.trans (hb2.mono HR.out.size)
          clear hb2
          go_wp2_with fail
          go_roundw
          case rel => exact ⟨b2, i + 1, rfl, by go_num, by omega, (fun _ => hd), H2⟩
          case measure => simp [intOf]; omega
      · go_wp2_with fail
        go_ret
        exact ⟨⟨_, rfl⟩, HFin.out⟩
end Go.Proofs.YtgpbgldnaongnaaGreatDoor

namespace Go.Proofs.YtgpbgldnaongnaaGreatDoor
open Go.RowKit
set_option maxRecDepth 20000

namespace Mm
open Pl
theorem rep_mono (W : World) : ∀ (f : Nat) (cs : List Value), RepOK W f cs → RepOK W (f + 1) cs
  | 0, _, h => h.elim
  | f + 1, cs, h => by
    obtain ⟨k, s, n, a, len, cap, hcs, hl, he⟩ := h
    refine ⟨k, s, n, a, len, cap, hcs, hl, he.imp id ?_⟩
    rintro ⟨b, o, ha, hb, h⟩
    refine ⟨b, o, ha, hb, fun i hi => ?_⟩
    obtain ⟨c0, c1, c2, c3, e0, e1, e2, e3, hr⟩ := h i hi
    exact ⟨c0, c1, c2, c3, e0, e1, e2, e3, rep_mono W f _ hr⟩
theorem rep_le (W : World) {f g : Nat} (hfg : f ≤ g) {cs : List Value} (h : RepOK W f cs) : RepOK W g cs := by
  obtain ⟨d, rfl⟩ := Nat.le.dest hfg
  clear hfg
  induction d with
  | zero => exact h
  | succ d ih => exact rep_mono W _ _ ih
/-- a reply that can be read is a finite tree -/
theorem RepY.ok {W : World} : ∀ (t : RT) (cs : List Value), RepY W t cs → t.sz ≤ 1073741824 → RepOK W t.sz cs := by
  intro t
  induction t using RT.ind with
  | h k s n l ih =>
    intro cs h hsz
    obtain ⟨a, c, rfl, hel⟩ := h.open
    have e : (RT.mk k s n l).sz = (s.size + 24 + RT.szL l) + 1 := by rw [RT.sz_mk]; omega
    rw [e] at hsz ⊢
    refine ⟨k, s, n, a, l.length, c, rfl, by have := RT.szL_len l; omega, hel.imp id ?_⟩
    rintro ⟨b, bo, ha, hb, h⟩
    refine ⟨b, bo, ha, hb, fun i hi => ?_⟩
    obtain ⟨c0, c1, c2, c3, e0, e1, e2, e3, hr⟩ := h i hi
    have hm := RT.szL_mem (List.getElem_mem hi)
    exact ⟨c0, c1, c2, c3, e0, e1, e2, e3, rep_le W (by omega) (ih _ (List.getElem_mem hi) _ hr (by omega))⟩
/-- 'append(b, s...)', s a text: what else stays -/
theorem wp_appSG {ops : Array Oper} {rest : List Oper} {o : Oper} {a : Act} {Q : Exit → Act → World → Prop} (w : World) (hgd : o.guard = none) (x y : Operand)
    (ho : o.op = .call { callee := .builtin .append, args := #[x, y], argTypes := #[23, 9] })
    (base : Nat) (v : Value) (l : List UInt8) (s : ByteArray) (hx : a.eval x = v) (hy : a.eval y = .string s) (h : OwnB w base v l) (hl : l.length + s.size ≤ 140737488355328) (hbase : base ≤ w.heap.size)
    (hK : ∀ v' w', OwnB w' base v' (l ++ L s) → w.grownBy w' v.ownBlock → wpList Tryz.prog ops Q rest (a.put o.dst v') w') : wpList Tryz.prog ops Q (o :: rest) a w := by
  obtain ⟨i0, hi, hz0, hz1, hz2⟩ := info_parts Tryz.info_u8
  refine Lib.wpList_append_own_string _ hgd x y 23 9 ho base 5 i0 Tryz.underlying23 Tryz.underlying9 hi hz0 hz1 hz2 v l.length (bytesV l) hx h s hy (by unfold maxLen; omega) hl hbase ?_
  intro v' w' h1 h2 _
  refine hK v' w' ?_ h2
  unfold OwnB
  rw [bytesV_append, List.length_append, L_length]
  exact h1
end Mm

theorem bounded_walk (t : RT) (c0 c1 c2 c3 : Value) (W w : World) (h : Mm.RepY W t [c0, c1, c2, c3]) (hsz : t.sz ≤ 1073741824) (hb : Below W.heap.size W w) :
    Calls Tryz.prog 6 #[.agg #[c0, c1, c2, c3]] w fun e w' => (∃ b, e = .returned (.bool b)) ∧ Below w.heap.size w w' := by
  have H := Pl.hid (Mm.RepY.ok t _ h hsz)
  have HB := Pl.hid hb
  clear h hb
  go_enter Tryz.func6, Tryz.ntmps6
  go_wp2_with fail
  generalize hw1 : World.alloc w _ = w1
  have HB1 : Hid (Below w.heap.size w w1) := by rw [← hw1]; exact (Below.refl _ _).alloc (Nat.le_refl _) _
  clear hw1
  refine (within_walk W _ _ H.out 0 w1 (by decide) (by decide) (HB.out.trans (HB1.out.mono HB.out.size))).mono ?_
  rintro e w2 ⟨⟨b, rfl⟩, hb2⟩
  have H2 := Pl.hid (HB1.out.trans (hb2.mono HB1.out.size))
  clear hb2
  go_wp2_with fail
  go_ret
  exact ⟨⟨_, rfl⟩, H2.out⟩
namespace RT
/-- what so many replies write -/
def outs (l : List RT) : List UInt8 := l.flatMap out
theorem outs_nil : outs [] = [] := rfl
theorem outs_take (l : List RT) (i : Nat) (h : i < l.length) : outs (l.take (i + 1)) = outs (l.take i) ++ (l[i]'h).out := by
  unfold outs
  rw [take_snoc l i h, List.flatMap_append]
  simp
theorem out_sz (t : RT) (hi : t.In) (hs : t.sz ≤ 1073741824) : t.out.length ≤ 2 * t.sz := by
  have := enc_le t hi hs
  rcases t.co_cases with ⟨_, h⟩ | ⟨h, _⟩
  · rw [h]; exact this
  · rw [h]; simp
theorem outs_le : ∀ (l : List RT), (∀ t ∈ l, t.In) → szL l ≤ 1073741824 → (outs l).length ≤ 2 * szL l
  | [], _, _ => by simp [outs]
  | t :: l, hi, hs => by
    simp only [szL] at hs ⊢
    have h1 := out_sz t (hi t (by simp)) (by omega)
    have h2 := outs_le l (fun x hx => hi x (by simp [hx])) (by omega)
    unfold outs at h2 ⊢
    rw [List.flatMap_cons, List.length_append]
    omega
theorem outs_len (l : List RT) (i : Nat) (hi : ∀ t ∈ l, t.In) (hs : szL l ≤ 1073741824) : (outs (l.take i)).length ≤ 2147483648 := by
  have h1 : szL (l.take i) ≤ szL l := by
    conv => rhs; rw [← List.take_append_drop i l]
    rw [szL_append]
    omega
  have := outs_le (l.take i) (fun t ht => hi t (List.mem_of_mem_take ht)) (by omega)
  omega
end RT
namespace Mm
open Pl
theorem PB.keepG {w w' : World} {p : Nat} {buf : List UInt8} {st : Pst} {G : Nat → Prop} (h : PB w p buf st G) (hb : ∀ g, g < w.heap.size → G g → w'.heap[g]? = w.heap[g]?) : PB w' p buf st G := by
  obtain ⟨bv, F, ⟨wv, rv, ev, rows, hv, hF⟩, ho, hd, hG⟩ := h
  exact ⟨bv, F, ⟨wv, rv, ev, rows, hv.keepF (fun g hg hf => hb g hg ((hG g).2 (.inl (by rw [hF]; exact hf)))), hF⟩, ho.keep (fun g hg => hb g (ho.lt g hg).2 ((hG g).2 (.inr hg))), hd, hG⟩
end Mm
end Go.Proofs.YtgpbgldnaongnaaGreatDoor
