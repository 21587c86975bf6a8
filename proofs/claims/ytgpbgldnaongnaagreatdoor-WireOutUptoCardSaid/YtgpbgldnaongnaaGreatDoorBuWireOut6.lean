/- Replies as trees, and how they lie in memory. Conditions stand in each law. reply's lay of a bulk, and of an array of bulks. Conditions stand in each law. reply's lay of an array of bulks; Bulks; Request. Conditions stand in each law. Replies as trees, read at any place of their lists' blocks. Conditions stand in each law. reply's lay of a reply that is no array and no bulk. Conditions stand in each law. Conditions stand in each law. -/
import Derived.Test.YtgpbgldnaongnaaGreatDoorBuWireOut2
import Derived.Maps.AppendAt
import Derived.Laws.ResultCell
import Derived.Laws.Rows
import Derived.Test.YtgpbgldnaongnaaGreatDoorBuWireOut5
import Derived.Lib.AppendStr
namespace Go.Proofs.YtgpbgldnaongnaaGreatDoor
open Go.RowKit
set_option maxRecDepth 20000

/-- a reply: its kind, text, number, list -/
inductive RT where
  | mk (k : Int) (s : ByteArray) (n : Int) (l : List RT)

namespace RT
theorem ind {P : RT → Prop} (h : ∀ k s n l, (∀ x ∈ l, P x) → P (.mk k s n l)) (t : RT) : P t :=
  RT.rec (motive_1 := P) (motive_2 := fun l => ∀ x ∈ l, P x) (fun k s n l ih => h k s n l ih) (fun x hx => by cases hx)
    (fun a l ha hl x hx => by
      rcases List.mem_cons.1 hx with rfl | hx
      · exact ha
      · exact hl x hx) t
mutual
/-- a bound for a reply's bytes -/
def sz : RT → Nat
  | .mk _ s _ l => s.size + 25 + szL l
def szL : List RT → Nat
  | [] => 0
  | t :: ts => sz t + szL ts
end
theorem szL_append : ∀ (a b : List RT), szL (a ++ b) = szL a + szL b
  | [], b => by simp [szL]
  | x :: a, b => by simp [szL, szL_append a b, Nat.add_assoc]
theorem sz_mk (k : Int) (s : ByteArray) (n : Int) (l : List RT) : sz (.mk k s n l) = s.size + 25 + szL l := by simp [sz]
theorem szL_snoc (a : List RT) (t : RT) : szL (a ++ [t]) = szL a + sz t := by simp [szL_append, szL]
theorem sz_pos (t : RT) : 25 ≤ sz t := by cases t; rw [sz_mk]; omega
theorem szL_mem : ∀ {l : List RT} {t : RT}, t ∈ l → sz t ≤ szL l
  | x :: l, t, h => by
    rcases List.mem_cons.1 h with rfl | h
    · simp [szL]
    · have := szL_mem h
      simp only [szL]
      omega
theorem szL_len : ∀ l : List RT, 25 * l.length ≤ szL l
  | [] => by simp [szL]
  | t :: ts => by
    have := szL_len ts
    have := sz_pos t
    simp only [szL, List.length_cons]
    omega
end RT

namespace Mm
open Pl
theorem Tryz.info_rep : (Tryz.prog.info? 25).map (fun i => (i.zero, i.size, i.bytes)) = some (some (.agg #[.int .i64 0, .string ⟨#[]⟩, .int .i64 0, .slice none 0 0]), 4, 56) := by kernel_rfl

theorem Tryz.info_rl : (Tryz.prog.info? 22).map (·.size) = some 1 := by kernel_rfl
mutual
/-- four cells are a reply; the blocks of its lists -/
inductive RepB (w : World) : RT → List Value → List Nat → Prop
  | mk (k : Int) (s : ByteArray) (n : Int) (l : List RT) (v : Value) (xs : List Value) (bs : List Nat) (hown : w.ownsRow 0 25 4 v l.length xs) (hr : RowB w l xs bs) :
      RepB w (.mk k s n l) [.int .i64 k, .string s, .int .i64 n, v] (v.ownBlock.toList ++ bs)
/-- cells are a row of replies -/
inductive RowB (w : World) : List RT → List Value → List Nat → Prop
  | nil : RowB w [] [] []
  | cons (t : RT) (ts : List RT) (cs xs : List Value) (bs bs' : List Nat) (h : RepB w t cs bs) (hr : RowB w ts xs bs') : RowB w (t :: ts) (cs ++ xs) (bs ++ bs')
end

theorem RepB.four {w : World} {t : RT} {cs : List Value} {bs : List Nat} (h : RepB w t cs bs) : ∃ c0 c1 c2 c3, cs = [c0, c1, c2, c3] ∧ ∀ u ∈ cs, u.oneCell' = true := by
  cases h with
  | mk k s n l v xs bs hown hr =>
    refine ⟨_, _, _, _, rfl, ?_⟩
    intro u hu
    simp only [List.mem_cons, List.mem_nil_iff, or_false] at hu
    rcases hu with rfl | rfl | rfl | rfl
    · rfl
    · rfl
    · rfl
    · rcases hown.2 with ⟨rfl, _⟩ | ⟨g, cap, cur, rfl, _⟩ <;> rfl

theorem ownsRowR_keep {w w' : World} {b : Nat} {e : TypeId} {z n : Nat} {v : Value} {xs : List Value} (h : w.ownsRow b e z v n xs) (hb : ∀ g, v.ownBlock = some g → w'.heap[g]? = w.heap[g]?) : w'.ownsRow b e z v n xs := by
  obtain ⟨hl, h0 | ⟨g, cap, cur, hv, hg, hh, r⟩⟩ := h
  · exact ⟨hl, .inl h0⟩
  · exact ⟨hl, .inr ⟨g, cap, cur, hv, hg, by rw [hb g (by rw [hv]; rfl)]; exact hh, r⟩⟩

mutual
theorem RepB.keep {w w' : World} : ∀ {t : RT} {cs : List Value} {bs : List Nat}, RepB w t cs bs → (∀ g ∈ bs, w'.heap[g]? = w.heap[g]?) → RepB w' t cs bs
  | _, _, _, .mk k s n l v xs bs hown hr, hb => .mk k s n l v xs bs (ownsRowR_keep hown fun g hg => hb g (by simp [hg])) (RowB.keep hr fun g hg => hb g (by simp [hg]))
theorem RowB.keep {w w' : World} : ∀ {ts : List RT} {xs : List Value} {bs : List Nat}, RowB w ts xs bs → (∀ g ∈ bs, w'.heap[g]? = w.heap[g]?) → RowB w' ts xs bs
  | _, _, _, .nil, _ => .nil
  | _, _, _, .cons t ts cs xs bs bs' h hr, hb => .cons t ts cs xs bs bs' (RepB.keep h fun g hg => hb g (by simp [hg])) (RowB.keep hr fun g hg => hb g (by simp [hg]))
end

theorem ownsRow_lt {w : World} {b : Nat} {e : TypeId} {z n : Nat} {v : Value} {xs : List Value} (h : w.ownsRow b e z v n xs) {g : Nat} (hg : v.ownBlock = some g) : g < w.heap.size := by
  obtain ⟨hl, ⟨rfl, _⟩ | ⟨g', cap, cur, rfl, _, hh, _⟩⟩ := h
  · cases hg
  · cases hg
    exact (Array.getElem?_eq_some_iff.1 hh).1

mutual
theorem RepB.lt {w : World} : ∀ {t : RT} {cs : List Value} {bs : List Nat}, RepB w t cs bs → ∀ g ∈ bs, g < w.heap.size
  | _, _, _, .mk k s n l v xs bs hown hr, g, hg => by
    rcases List.mem_append.1 hg with hg | hg
    · exact ownsRow_lt hown (by simpa using hg)
    · exact RowB.lt hr g hg
theorem RowB.lt {w : World} : ∀ {ts : List RT} {xs : List Value} {bs : List Nat}, RowB w ts xs bs → ∀ g ∈ bs, g < w.heap.size
  | _, _, _, .nil, g, hg => by cases hg
  | _, _, _, .cons t ts cs xs bs bs' h hr, g, hg => by
    rcases List.mem_append.1 hg with hg | hg
    · exact RepB.lt h g hg
    · exact RowB.lt hr g hg
end

theorem RowB.snoc {w : World} {t : RT} {cs : List Value} {bs' : List Nat} (h : RepB w t cs bs') : ∀ {ts : List RT} {xs : List Value} {bs : List Nat}, RowB w ts xs bs → RowB w (ts ++ [t]) (xs ++ cs) (bs ++ bs')
  | _, _, _, .nil => by
    have := RowB.cons t [] cs [] bs' [] h .nil
    simpa using this
  | _, _, _, .cons t0 ts cs0 xs bs0 bs1 h0 hr => by
    have := RowB.cons t0 _ cs0 _ bs0 _ h0 (RowB.snoc h hr)
    simpa using this

theorem RowB.at {w : World} : ∀ {ts : List RT} {xs : List Value} {bs : List Nat}, RowB w ts xs bs → ∀ (i : Nat) (hi : i < ts.length),
    ∃ c0 c1 c2 c3 bs', xs[i * 4]? = some c0 ∧ xs[i * 4 + 1]? = some c1 ∧ xs[i * 4 + 2]? = some c2 ∧ xs[i * 4 + 3]? = some c3 ∧ RepB w (ts[i]'hi) [c0, c1, c2, c3] bs' ∧ ∀ g ∈ bs', g ∈ bs
  | _, _, _, .nil, i, hi => by simp at hi
  | _, _, _, .cons t ts cs xs bs bs' h hr, i, hi => by
    obtain ⟨c0, c1, c2, c3, rfl, _⟩ := h.four
    cases i with
    | zero => exact ⟨c0, c1, c2, c3, bs, rfl, rfl, rfl, rfl, h, fun g hg => by simp [hg]⟩
    | succ i =>
      obtain ⟨d0, d1, d2, d3, bs1, e0, e1, e2, e3, h1, h2⟩ := RowB.at hr i (by simpa using hi)
      refine ⟨d0, d1, d2, d3, bs1, ?_, ?_, ?_, ?_, h1, fun g hg => by simp [h2 g hg]⟩ <;>
        (rw [show (i + 1) * 4 = i * 4 + 4 by omega]; simpa [Nat.add_right_comm] using (by assumption))

/-- a reply that can be read -/
def RepX (w : World) (t : RT) (cs : List Value) : Prop := ∃ bs, RepB w t cs bs
theorem RepX.keep {w w' : World} {t : RT} {cs : List Value} (h : RepX w t cs) (hb : Below w.heap.size w w') : RepX w' t cs := by
  obtain ⟨bs, h⟩ := h
  exact ⟨bs, h.keep fun g hg => hb.block g (h.lt g hg)⟩
theorem RepX.one {w : World} {t : RT} {cs : List Value} (h : RepX w t cs) : ∀ u ∈ cs, u.oneCell' = true := by
  obtain ⟨bs, h⟩ := h
  obtain ⟨_, _, _, _, _, h⟩ := h.four
  exact h
/-- a reply, opened -/
theorem RepX.open {w : World} {k : Int} {s : ByteArray} {n : Int} {l : List RT} {cs : List Value} (h : RepX w (.mk k s n l) cs) :
    ∃ (a : Option Addr) (cap : Nat), cs = [.int .i64 k, .string s, .int .i64 n, .slice a l.length cap] ∧ (l.length = 0 ∨ ∃ b, a = some ⟨b, 0, none⟩ ∧ b < w.heap.size ∧
      ∀ i (hi : i < l.length), ∃ c0 c1 c2 c3, w.cell? ⟨b, i * 4, none⟩ = some c0 ∧ w.cell? ⟨b, i * 4 + 1, none⟩ = some c1 ∧ w.cell? ⟨b, i * 4 + 2, none⟩ = some c2 ∧ w.cell? ⟨b, i * 4 + 3, none⟩ = some c3 ∧ RepX w (l[i]'hi) [c0, c1, c2, c3]) := by
  obtain ⟨bs, h⟩ := h
  cases h with
  | mk k s n l v xs bs hown hr =>
    rcases hown.2 with ⟨rfl, h0⟩ | ⟨g, cap, cur, rfl, _, hh, hle, hm, hc, ht⟩
    · exact ⟨none, 0, by rw [h0], .inl h0⟩
    · refine ⟨_, _, rfl, .inr ⟨g, rfl, (Array.getElem?_eq_some_iff.1 hh).1, fun i hi => ?_⟩⟩
      obtain ⟨c0, c1, c2, c3, bs', e0, e1, e2, e3, h1, _⟩ := hr.at i hi
      have key : ∀ j u, xs[j]? = some u → w.cell? ⟨g, j, none⟩ = some u := by
        intro j u hj
        rw [← ht] at hj
        have hlt := (List.getElem?_eq_some_iff.1 hj).1
        rw [List.length_take] at hlt
        rw [List.getElem?_take_of_lt (by omega)] at hj
        unfold World.cell?
        rw [hh]
        simpa using hj
      exact ⟨c0, c1, c2, c3, key _ _ e0, key _ _ e1, key _ _ e2, key _ _ e3, bs', h1⟩

/-- a row of replies in blocks of one's own -/
def OwnL (w : World) (lo : Nat) (v : Value) (ts : List RT) : Prop :=
  ∃ xs bs, w.ownsRow 0 25 4 v ts.length xs ∧ RowB w ts xs bs ∧ (v.ownBlock.toList ++ bs).Nodup ∧ ∀ g ∈ v.ownBlock.toList ++ bs, lo ≤ g
/-- a reply in blocks of one's own -/
def OwnT (w : World) (lo : Nat) (t : RT) (cs : List Value) : Prop := ∃ bs, RepB w t cs bs ∧ bs.Nodup ∧ ∀ g ∈ bs, lo ≤ g

theorem OwnL.nil (w : World) (lo : Nat) : OwnL w lo (.slice none 0 0) [] := ⟨[], [], ⟨rfl, .inl ⟨rfl, rfl⟩⟩, .nil, by simp [Value.ownBlock], by simp [Value.ownBlock]⟩
theorem OwnL.rep {w : World} {lo : Nat} {v : Value} {ts : List RT} (h : OwnL w lo v ts) (k : Int) (s : ByteArray) (n : Int) : OwnT w lo (.mk k s n ts) [.int .i64 k, .string s, .int .i64 n, v] := by
  obtain ⟨xs, bs, h1, h2, h3, h4⟩ := h
  exact ⟨_, .mk k s n ts v xs bs h1 h2, h3, h4⟩
theorem OwnT.list {w : World} {lo : Nat} {k : Int} {s : ByteArray} {n : Int} {l : List RT} {cs : List Value} (h : OwnT w lo (.mk k s n l) cs) : ∃ v, cs = [.int .i64 k, .string s, .int .i64 n, v] ∧ OwnL w lo v l := by
  obtain ⟨bs, h1, h2, h3⟩ := h
  cases h1 with
  | mk k s n l v xs bs hown hr => exact ⟨v, rfl, xs, bs, hown, hr, h2, h3⟩
theorem OwnT.x {w : World} {lo : Nat} {t : RT} {cs : List Value} (h : OwnT w lo t cs) : RepX w t cs := ⟨h.choose, h.choose_spec.1⟩
theorem OwnT.below {w w' : World} {lo : Nat} {t : RT} {cs : List Value} (h : OwnT w lo t cs) (hb : Below w.heap.size w w') : OwnT w' lo t cs := by
  obtain ⟨bs, h1, h2, h3⟩ := h
  exact ⟨bs, h1.keep fun g hg => hb.block g (h1.lt g hg), h2, h3⟩
theorem OwnT.lo {w : World} {lo lo' : Nat} {t : RT} {cs : List Value} (h : OwnT w lo t cs) (hl : lo' ≤ lo) : OwnT w lo' t cs := by
  obtain ⟨bs, h1, h2, h3⟩ := h
  exact ⟨bs, h1, h2, fun g hg => Nat.le_trans hl (h3 g hg)⟩
theorem OwnL.below {w w' : World} {lo : Nat} {v : Value} {ts : List RT} (h : OwnL w lo v ts) (hb : Below w.heap.size w w') : OwnL w' lo v ts := by
  obtain ⟨xs, bs, h1, h2, h3, h4⟩ := h
  exact ⟨xs, bs, ownsRowR_keep h1 fun g hg => hb.block g (ownsRow_lt h1 hg), h2.keep fun g hg => hb.block g (h2.lt g hg), h3, h4⟩
theorem OwnT.keepLo {w w' : World} {lo : Nat} {t : RT} {cs : List Value} (h : OwnT w lo t cs) (hb : ∀ g, lo ≤ g → g < w.heap.size → w'.heap[g]? = w.heap[g]?) : OwnT w' lo t cs := by
  obtain ⟨bs, h1, h2, h3⟩ := h
  exact ⟨bs, h1.keep fun g hg => hb g (h3 g hg) (h1.lt g hg), h2, h3⟩
theorem OwnL.keepLo {w w' : World} {lo : Nat} {v : Value} {ts : List RT} (h : OwnL w lo v ts) (hb : ∀ g, lo ≤ g → g < w.heap.size → w'.heap[g]? = w.heap[g]?) : OwnL w' lo v ts := by
  obtain ⟨xs, bs, h1, h2, h3, h4⟩ := h
  exact ⟨xs, bs, ownsRowR_keep h1 fun g hg => hb g (h4 g (by simp [hg])) (ownsRow_lt h1 hg), h2.keep fun g hg => hb g (h4 g (by simp [hg])) (h2.lt g hg), h3, h4⟩
theorem OwnL.one {w : World} {lo : Nat} {v : Value} {ts : List RT} (h : OwnL w lo v ts) : v.oneCell' = true ∧ v.cells = #[v] := by
  obtain ⟨xs, bs, h1, _⟩ := h
  rcases h1.2 with ⟨rfl, h0⟩ | ⟨g, cap, cur, rfl, _⟩ <;> exact ⟨rfl, rfl⟩
theorem OwnT.one {w : World} {lo : Nat} {t : RT} {cs : List Value} (h : OwnT w lo t cs) : ∀ u ∈ cs, u.oneCell' = true := by
  obtain ⟨bs, h1, _⟩ := h
  obtain ⟨_, _, _, _, _, h⟩ := h1.four
  exact h
theorem cell_of {w : World} {p i : Nat} {cs : Array Value} {T : TypeId} {z : Nat × Nat} {v : Value} (h : w.heap[p]? = some (.cells cs T z)) (hi : cs[i]? = some v) : w.cell? ⟨p, i, none⟩ = some v := by
  unfold World.cell?
  rw [h]
  exact hi
theorem heap_set {w : World} {p : Nat} {cs : Array Value} {T : TypeId} {z : Nat × Nat} (h : w.heap[p]? = some (.cells cs T z)) (i : Nat) (u : Value) : (w.setCell ⟨p, i, none⟩ u).heap[p]? = some (.cells (cs.setIfInBounds i u) T z) := by
  simp [World.setCell, Array.getElem?_modify, h]
theorem grown_set (w : World) (p i : Nat) (u : Value) : w.grownBy (w.setCell ⟨p, i, none⟩ u) (some p) :=
  ⟨rfl, rfl, rfl, by simp [World.setCell], fun k _ hk => Below.heap_setCell w _ u k (fun e => hk (by rw [e]))⟩
theorem frozen_of {w : World} {p i : Nat} {cs : Array Value} {T : TypeId} (h : w.heap[p]? = some (.cells cs T (0, 0))) : w.frozen? ⟨p, i, none⟩ = false := by
  simp [World.frozen?, h]
theorem undrew {B : Nat} {w w' : World} (h : Below B w.drew w') : Below B w w' := ⟨h.os, h.tape, h.output, h.size, h.block⟩
/-- the results of a function whose first result is a reply in memory -/
theorem res_cell_tmp {fn : Func} {p u : Tmp} (h : fn.results = #[.cell p 25, .tmp u]) (tmps : Array Value) (w : World) (g : Nat) (T : TypeId) (c0 c1 c2 c3 : Value) (fr : Nat × Nat)
    (hp : tmps.getD p undef = .pointer (some ⟨g, 0, none⟩)) (hg : w.heap[g]? = some (.cells #[c0, c1, c2, c3] T fr)) :
    (results fn tmps).run Tryz.prog w = .ok (.tuple #[.agg #[c0, c1, c2, c3], tmps.getD u undef]) w := by
  obtain ⟨i0, hi, hz0, hz1, hz2⟩ := info_parts Tryz.info_rep
  rw [results_cell_tmp h, hp]
  simp only [asAddr]
  simp [run_loadVar_row w g T 25 _ fr _ hg Tryz.underlying25 rfl (by rw [hi]; simp [hz1])]
/-- the result of a function whose result is a reply in memory -/
theorem res_cell {fn : Func} {p : Tmp} (h : fn.results = #[.cell p 25]) (tmps : Array Value) (w : World) (g : Nat) (T : TypeId) (c0 c1 c2 c3 : Value) (fr : Nat × Nat)
    (hp : tmps.getD p undef = .pointer (some ⟨g, 0, none⟩)) (hg : w.heap[g]? = some (.cells #[c0, c1, c2, c3] T fr)) :
    (results fn tmps).run Tryz.prog w = .ok (.agg #[c0, c1, c2, c3]) w := by
  obtain ⟨i0, hi, hz0, hz1, hz2⟩ := info_parts Tryz.info_rep
  exact results_cell_row h tmps w g T _ fr _ hp hg Tryz.underlying25 rfl (by rw [hi]; simp [hz1])
theorem OwnL.val {w : World} {lo : Nat} {v : Value} {ts : List RT} (h : OwnL w lo v ts) : ∃ a cap, v = .slice a ts.length cap := by
  obtain ⟨xs, bs, h1, _⟩ := h
  rcases h1.2 with ⟨rfl, h0⟩ | ⟨g, cap, cur, rfl, _⟩
  · exact ⟨none, 0, by rw [h0]⟩
  · exact ⟨_, _, rfl⟩

/-- a store of a whole reply into a block of four cells -/
theorem wp_store4 {ops : Array Oper} {rest : List Oper} {op : Oper} {a : Act} {Q : Exit → Act → World → Prop} (w : World) (hgd : op.guard = none) (x y : Operand) (ho : op.op = .store 25 x y)
    (p : Nat) (T : TypeId) (cs : Array Value) (c0 c1 c2 c3 : Value) (h : w.heap[p]? = some (.cells cs T (0, 0))) (hcs : cs.size = 4) (hx : a.eval x = .pointer (some ⟨p, 0, none⟩)) (hy : a.eval y = .agg #[c0, c1, c2, c3]) (h1 : ∀ u ∈ [c0, c1, c2, c3], u.oneCell' = true)
    (hK : ∀ w', w'.heap[p]? = some (.cells #[c0, c1, c2, c3] T (0, 0)) → w'.heap.size = w.heap.size → w.grownBy w' (some p) → wpList Tryz.prog ops Q rest (a.put op.dst undef) w') : wpList Tryz.prog ops Q (op :: rest) a w := by
  refine wpList_plain hgd fun K hK' => ?_
  obtain ⟨i0, hi0, hz0, hz1, hz2⟩ := info_parts Tryz.info_rep
  have hst := run_storeCells_at Tryz.prog p 0 T [c0, c1, c2, c3] 0 _ w h (by simp; omega) h1
  have hrun : (Instr.storeAt 25 (.pointer (some ⟨p, 0, none⟩)) (.agg #[c0, c1, c2, c3])).run Tryz.prog w =
      .ok () (w.setRow p (cs.toList.take 0 ++ [c0, c1, c2, c3] ++ cs.toList.drop (0 + 4)).toArray) := by
    simp only [Nat.add_zero] at hst
    simp [Instr.storeAt, Instr.sureAddr, storeVar, sizeOf, typeInfo, hi0, hz1, Value.cells]
    simpa using hst
  unfold Oper.wp execOp
  simp only [ho, hx, hy, Sem.run_bind, Sem.run_pure, Result.andThen_ok, hrun]
  refine hK' _ _ (hK _ ?_ (by simp [World.setRow]) ⟨rfl, rfl, rfl, by simp [World.setRow], fun k _ hk => setRow_other w p k _ (fun e => hk (by rw [e]))⟩)
  rw [setRow_heap w p _ _ _ _ h]
  congr 2
  apply Array.ext'
  have : cs.toList.drop 4 = [] := List.drop_eq_nil_iff.2 (by simp [hcs])
  simp [this]

/-- 'append(l, x)': one more reply, which was made behind the row -/
theorem run_appR (w : World) (ty : TypeId) (w0 w1 : World) (lo : Nat) (v : Value) (ts : List RT) (h : OwnL w0 lo v ts) (t : RT) (cs : List Value) (ht : OwnT w1 w0.heap.size t cs)
    (hw : w = w1.alloc (.cells cs.toArray 25)) (hb : Below w0.heap.size w0 w1) (hl : ts.length < 1073741824) (hlo : lo ≤ w0.heap.size) :
    ∃ v' w', (Builtin.append_ #[22, 22] ty #[v, .slice (some ⟨w1.heap.size, 0, none⟩) 1 1]).run Tryz.prog w = .ok v' w' ∧ OwnL w' lo v' (ts ++ [t]) ∧ Below lo w1 w' ∧ w.grownBy w' v.ownBlock := by
  obtain ⟨i0, hi, hz0, hz1, hz2⟩ := info_parts Tryz.info_rep
  have hb1 : Below w1.heap.size w1 w := by rw [hw]; exact (Below.refl _ _).alloc (Nat.le_refl _) _
  have hs : w.heap.size = w1.heap.size + 1 := by rw [hw]; simp
  obtain ⟨xs0, bs0, g1, g2, g3, g4⟩ := h
  obtain ⟨bt, t1, t2, t3⟩ := ht
  obtain ⟨c0, c1, c2, c3, rfl, hone⟩ := t1.four
  have k1 := ownsRowR_keep g1 (w' := w) fun g hg => (hb.trans (hb1.mono hb.size)).block g (ownsRow_lt g1 hg)
  have k2 := g2.keep (w' := w) fun g hg => (hb.trans (hb1.mono hb.size)).block g (g2.lt g hg)
  have kt := t1.keep (w' := w) fun g hg => hb1.block g (t1.lt g hg)
  obtain ⟨v', w', hr, r1, r2, _, r4⟩ := run_append_own_at (P := Tryz.prog) w 0 22 ty 25 i0 (.agg #[.int .i64 0, .string ⟨#[]⟩, .int .i64 0, .slice none 0 0]) 4 56 Tryz.underlying22 hi hz0 hz1 hz2 rfl (by decide) v ts.length xs0 k1 ⟨w1.heap.size, 0, none⟩ 1 1 [c0, c1, c2, c3] rfl
    (by
      intro j u hj
      have e : (⟨w1.heap.size, 0, none⟩ : Addr).add j = ⟨w1.heap.size, j, none⟩ := by unfold Addr.add; split <;> simp_all
      rw [e, hw, World.cell?_alloc_mark]
      simpa using hj) hone (by unfold maxLen; omega) (by omega) (Nat.zero_le _)
  have hlt : ∀ g ∈ v.ownBlock.toList ++ bs0, g < w0.heap.size := by
    intro g hg
    rcases List.mem_append.1 hg with hg | hg
    · exact ownsRow_lt g1 (by simpa using hg)
    · exact g2.lt g hg
  have hsz0 : w0.heap.size ≤ w1.heap.size := hb.size
  have far : ∀ g, g ∈ bs0 ++ bt → w'.heap[g]? = w.heap[g]? := by
    intro g hg
    have hgl : g < w.heap.size := by
      rcases List.mem_append.1 hg with hg | hg
      · exact k2.lt g hg
      · exact kt.lt g hg
    refine r2.block g hgl fun e => ?_
    have hv : g ∈ v.ownBlock.toList := by rw [← e]; simp
    rcases List.mem_append.1 hg with hg | hg
    · exact (List.nodup_append.1 g3).2.2 g hv g hg rfl
    · have := t3 g hg
      have := hlt g (by simp [hv])
      omega
  refine ⟨v', w', hr, ⟨xs0 ++ [c0, c1, c2, c3], bs0 ++ bt, by rw [List.length_append]; exact r1, (RowB.snoc kt k2).keep fun g hg => far g hg, ?_, ?_⟩, ?_, r2⟩
  · have hn : (bs0 ++ bt).Nodup := List.nodup_append.2 ⟨(List.nodup_append.1 g3).2.1, t2, fun a ha b hb' e => by
      have := hlt a (by simp [ha])
      have := t3 b hb'
      omega⟩
    refine List.nodup_append.2 ⟨by cases v'.ownBlock <;> simp, hn, fun a ha b hb' e => ?_⟩
    subst e
    rcases r4 with e | e
    · rw [e] at ha
      rcases List.mem_append.1 hb' with hb' | hb'
      · exact (List.nodup_append.1 g3).2.2 a ha a hb' rfl
      · have := hlt a (by simp [ha])
        have := t3 a hb'
        omega
    · rw [e] at ha
      simp at ha
      rcases List.mem_append.1 hb' with hb' | hb'
      · have := hlt a (by simp [hb'])
        omega
      · have := t1.lt a hb'
        omega
  · intro g hg
    rcases List.mem_append.1 hg with hg | hg
    · rcases r4 with e | e
      · rw [e] at hg
        exact g4 g (by simp [hg])
      · rw [e] at hg
        simp at hg
        omega
    · rcases List.mem_append.1 hg with hg | hg
      · exact g4 g (by simp [hg])
      · have := t3 g hg
        omega
  · exact (hb1.mono (by omega)).grown r2 (by omega) fun k hk => g4 k (by simp [hk])

theorem wp0_appR {o : Oper} {a : Act} {K : Act → World → Prop} {Q : Exit → Act → World → Prop} (w : World) (x y : Operand)
    (ho : o.op = .call { callee := .builtin .append, args := #[x, y], argTypes := #[22, 22] })
    (w0 w1 : World) (lo : Nat) (v : Value) (ts : List RT) (hx : a.eval x = v) (h : OwnL w0 lo v ts) (t : RT) (cs : List Value) (ht : OwnT w1 w0.heap.size t cs)
    (hy : a.eval y = .slice (some ⟨w1.heap.size, 0, none⟩) 1 1) (hw : w = w1.alloc (.cells cs.toArray 25)) (hb : Below w0.heap.size w0 w1) (hl : ts.length < 1073741824) (hlo : lo ≤ w0.heap.size)
    (hK : ∀ v' w', OwnL w' lo v' (ts ++ [t]) → Below lo w1 w' → w.grownBy w' v.ownBlock → K (a.put o.dst v') w') : o.wp Tryz.prog a w K Q := by
  obtain ⟨v', w', hr, h2, h3, h4⟩ := run_appR w o.type w0 w1 lo v ts h t cs ht hw hb hl hlo
  unfold Oper.wp execOp
  simp only [ho, resolve, invoke, builtin, Sem.run_bind, Sem.run_pure, Result.andThen_ok, List.map_toArray, List.map_cons, List.map_nil, hx, hy, hr]
  exact hK v' w' h2 h3 h4
/-- in a plain region -/
theorem wp_appR {ops : Array Oper} {rest : List Oper} {o : Oper} {a : Act} {Q : Exit → Act → World → Prop} (w : World) (hgd : o.guard = none) (x y : Operand)
    (ho : o.op = .call { callee := .builtin .append, args := #[x, y], argTypes := #[22, 22] })
    (w0 w1 : World) (lo : Nat) (v : Value) (ts : List RT) (hx : a.eval x = v) (h : OwnL w0 lo v ts) (t : RT) (cs : List Value) (ht : OwnT w1 w0.heap.size t cs)
    (hy : a.eval y = .slice (some ⟨w1.heap.size, 0, none⟩) 1 1) (hw : w = w1.alloc (.cells cs.toArray 25)) (hb : Below w0.heap.size w0 w1) (hl : ts.length < 1073741824) (hlo : lo ≤ w0.heap.size)
    (hK : ∀ v' w', OwnL w' lo v' (ts ++ [t]) → Below lo w1 w' → wpList Tryz.prog ops Q rest (a.put o.dst v') w') :
    wpList Tryz.prog ops Q (o :: rest) a w :=
  wpList_plain hgd fun _ hK' => wp0_appR w x y ho w0 w1 lo v ts hx h t cs ht hy hw hb hl hlo fun v' w' h2 h3 _ => hK' _ _ (hK v' w' h2 h3)
/-- in a region that draws its order -/
theorem step_appR {ops : Array Oper} {o : Oper} {a : Act} {K : Act → World → Prop} {Q : Exit → Act → World → Prop} {E : Prop} (w : World) (hgd : o.guard = none) (x y : Operand)
    (ho : o.op = .call { callee := .builtin .append, args := #[x, y], argTypes := #[22, 22] })
    (w0 w1 : World) (lo : Nat) (v : Value) (ts : List RT) (hx : a.eval x = v) (h : OwnL w0 lo v ts) (t : RT) (cs : List Value) (ht : OwnT w1 w0.heap.size t cs)
    (hy : a.eval y = .slice (some ⟨w1.heap.size, 0, none⟩) 1 1) (hw : w = w1.alloc (.cells cs.toArray 25)) (hb : Below w0.heap.size w0 w1) (hl : ts.length < 1073741824) (hlo : lo ≤ w0.heap.size)
    (hK : ∀ v' w', OwnL w' lo v' (ts ++ [t]) → Below lo w1 w' → w.grownBy w' v.ownBlock → K (a.put o.dst v') w') :
    if Region.wanted o (yielded ops a.tmps) = true then Oper.wp Tryz.prog o a w K Q else E := by
  have hwd : Region.wanted o (yielded ops a.tmps) = true := by simp [Region.wanted, hgd]
  rw [if_pos hwd]
  exact wp0_appR w x y ho w0 w1 lo v ts hx h t cs ht hy hw hb hl hlo hK
end Mm
end Go.Proofs.YtgpbgldnaongnaaGreatDoor

namespace Go.Proofs.YtgpbgldnaongnaaGreatDoor
open Go.RowKit
set_option maxRecDepth 20000

namespace Pl
def crlf : List UInt8 := [13, 10]
def bulkE (s : List UInt8) : List UInt8 := [36] ++ Lib.decDigits s.length ++ crlf ++ s ++ crlf
def reqE (ws : List (List UInt8)) : List UInt8 := [42] ++ Lib.decDigits ws.length ++ crlf ++ ws.flatMap bulkE
theorem dec_len (n : Nat) (h : n ≤ 9223372036854775807) : (Lib.decDigits n).length ≤ 21 := by
  have := itoa_le (n : Int) (by unfold In64; omega)
  rwa [itoa_pos (by omega)] at this
end Pl
namespace Mm
open Pl
def isU8 (o : Obj) : Prop := ∃ cs fr, o = .cells cs 5 fr
/-- what is no row of bytes stays -/
def NB (w w' : World) : Prop := ∀ (g : Nat) (o : Obj), w.heap[g]? = some o → ¬ isU8 o → w'.heap[g]? = some o
theorem NB.refl (w : World) : NB w w := fun _ _ h _ => h
theorem NB.trans {a b c : World} (h : NB a b) (k : NB b c) : NB a c := fun g o hg hn => k g o (h g o hg hn) hn
theorem NB.below {w w' : World} (h : Below w.heap.size w w') : NB w w' := fun g _ hg _ => (h.block g (Array.getElem?_eq_some_iff.1 hg).1).trans hg
theorem NB.own {w w' : World} {b : Nat} {v : Value} {l : List UInt8} (h : OwnB w b v l) (hg : w.grownBy w' v.ownBlock) : NB w w' := fun g o hgo hn => by
  refine (hg.block g (Array.getElem?_eq_some_iff.1 hgo).1 (fun e => ?_)).trans hgo
  rcases h.2 with ⟨rfl, _⟩ | ⟨g', cap, cur, rfl, _, hh, _⟩
  · cases e
  · injection e with e
    subst e
    rw [hgo] at hh
    injection hh with hh
    exact hn ⟨_, _, hh⟩
/-- 'append(b, c)' -/
theorem wp_app1N {ops : Array Oper} {rest : List Oper} {o : Oper} {a : Act} {Q : Exit → Act → World → Prop} (w : World) (hgd : o.guard = none) (x y : Operand)
    (ho : o.op = .call { callee := .builtin .append, args := #[x, y], argTypes := #[23, 23] })
    (base : Nat) (v : Value) (l : List UInt8) (c : UInt8) (hx : a.eval x = v) (hy : a.eval y = .slice (some ⟨w.heap.size, 0, none⟩) 1 1) (h : OwnB w base v l) (hl : l.length < 140737488355328) (hbase : base ≤ w.heap.size)
    (hK : ∀ v' w', OwnB w' base v' (l ++ [c]) → Below base w w' → NB w w' → wpList Tryz.prog ops Q rest (a.put o.dst v') w') :
    wpList Tryz.prog ops Q (o :: rest) a (w.alloc (.cells #[.int .u8 c.toNat] 5)) := by
  obtain ⟨i0, hi, hz0, hz1, hz2⟩ := info_parts Tryz.info_u8
  refine wpList_append_own _ hgd x y 23 ho base 5 i0 (.int .u8 0) 1 1 Tryz.underlying23 hi hz0 hz1 hz2 rfl (by decide) v l.length (bytesV l) hx (h.alloc _) ⟨w.heap.size, 0, none⟩ 1 1 [byteV c] hy rfl (cell_one_new _ _ _) ?_ ?_ ?_ ?_ ?_
  · intro u hu
    simp at hu
    subst hu
    rfl
  · unfold maxLen; omega
  · omega
  · simp; omega
  · intro v' w' h1 h2 _
    exact hK v' w' (by unfold OwnB; rw [bytesV_append, List.length_append]; exact h1) (((Below.refl _ _).alloc hbase _).grown h2 (by simp; omega) (fun k hk => (h.lt k hk).1))
      ((NB.below ((Below.refl _ _).alloc (Nat.le_refl _) _)).trans (NB.own (h.alloc _) h2))
/-- 'append(b, s...)', s a text -/
theorem wp_appSN {ops : Array Oper} {rest : List Oper} {o : Oper} {a : Act} {Q : Exit → Act → World → Prop} (w : World) (hgd : o.guard = none) (x y : Operand)
    (ho : o.op = .call { callee := .builtin .append, args := #[x, y], argTypes := #[23, 9] })
    (base : Nat) (v : Value) (l : List UInt8) (s : ByteArray) (hx : a.eval x = v) (hy : a.eval y = .string s) (h : OwnB w base v l) (hl : l.length + s.size ≤ 140737488355328) (hbase : base ≤ w.heap.size)
    (hK : ∀ v' w', OwnB w' base v' (l ++ L s) → Below base w w' → NB w w' → wpList Tryz.prog ops Q rest (a.put o.dst v') w') : wpList Tryz.prog ops Q (o :: rest) a w := by
  obtain ⟨i0, hi, hz0, hz1, hz2⟩ := info_parts Tryz.info_u8
  refine Lib.wpList_append_own_string _ hgd x y 23 9 ho base 5 i0 Tryz.underlying23 Tryz.underlying9 hi hz0 hz1 hz2 v l.length (bytesV l) hx h s hy (by unfold maxLen; omega) hl hbase ?_
  intro v' w' h1 h2 _
  refine hK v' w' ?_ ((Below.refl _ _).grown h2 hbase (fun k hk => (h.lt k hk).1)) (NB.own h h2)
  unfold OwnB
  rw [bytesV_append, List.length_append, L_length]
  exact h1
end Mm

theorem sign_4 (w : World) : Calls Tryz.prog 31 #[.int .i64 4] w fun e w' => e = .returned (.int .u8 36) ∧ w = w' := by
  go_enter Tryz.func31, Tryz.ntmps31
  go_wp2_with fail
  go_ret
  exact ⟨rfl, rfl⟩
theorem sign_6 (w : World) : Calls Tryz.prog 31 #[.int .i64 6] w fun e w' => e = .returned (.int .u8 42) ∧ w = w' := by
  go_enter Tryz.func31, Tryz.ntmps31
  go_wp2_with fail
  go_ret
  exact ⟨rfl, rfl⟩

set_option maxHeartbeats 4000000 in
theorem lay_bulk (s : ByteArray) (la : Option Addr) (lc base : Nat) (v : Value) (l : List UInt8) (W w : World) (hT : Mm.Tab W) (hW : Below W.heap.size W w) (hWb : W.heap.size ≤ base) (hb : base ≤ w.heap.size) (ho : Mm.OwnB w base v l) (hl : l.length ≤ 1099511627776) (hs : s.size ≤ 1099511627776) :
    Calls Tryz.prog 22 #[v, .agg #[.int .i64 4, .string s, .int .i64 0, .slice la 0 lc]] w fun e w' => ∃ v', e = .returned v' ∧ Mm.OwnB w' base v' (l ++ Pl.bulkE (Pl.L s)) ∧ Below base w w' ∧ Mm.NB w w' := by
  obtain ⟨p, hp⟩ : ∃ p, p = w.heap.size := ⟨_, rfl⟩
  obtain ⟨w0, hw0⟩ : ∃ w0, w0 = w.alloc (.cells #[.int .i64 4, .string s, .int .i64 0, .slice la 0 lc] 25) := ⟨_, rfl⟩
  have HP0 : Hid (w0.heap[p]? = some (.cells #[.int .i64 4, .string s, .int .i64 0, .slice la 0 lc] 25 (0, 0))) := by
    show _ = _
    rw [hw0, hp]
    exact heap_alloc_new w _
  have HB0 : Hid (Below w.heap.size w w0) := by rw [hw0]; exact (Below.refl _ _).alloc (Nat.le_refl _) _
  have HS0 : Hid (w0.heap.size = w.heap.size + 1) := by show _ = _; rw [hw0]; simp
  have hnu : ¬ Mm.isU8 (.cells #[.int .i64 4, .string s, .int .i64 0, .slice la 0 lc] 25 (0, 0)) := by
    rintro ⟨cs, fr, e⟩
    injection e with _ e _
    exact absurd e (by decide)
  have HK : Hid (∀ V, Mm.NB w0 V → V.cell? ⟨p, 0, none⟩ = some (.int .i64 4) ∧ V.cell? ⟨p, 1, none⟩ = some (.string s)) := fun V hV => by
    have h := hV p _ HP0.out hnu
    exact ⟨Mm.cellOf h rfl, Mm.cellOf h rfl⟩
  have HO0 : Hid (Mm.OwnB w0 base v l) := ho.keep fun g hg => HB0.out.block g (ho.lt g hg).2
  have HW := Pl.hid hW
  have HT := Pl.hid hT
  have HWb := Pl.hid hWb
  have hb0 : base ≤ w0.heap.size := by rw [HS0.out]; omega
  have HBB := Pl.hid hb
  obtain ⟨k0, k1⟩ := HK.out w0 (Mm.NB.refl _)
  have HW0eq := Pl.hid hw0
  have HPeq := Pl.hid hp
  clear hw0 hp hnu ho hW hT
  go_enter Tryz.func22, Tryz.ntmps22
  obtain ⟨TX, hTX⟩ : ∃ TX, TX = Pl.B (Lib.itoa (s.size : Int)) := ⟨_, rfl⟩
  have hTs : TX.size ≤ 21 := by rw [hTX, Pl.B_size]; exact Pl.itoa_le _ (by unfold Pl.In64; omega)
  have HTX : Hid (TX = Pl.B (Lib.decDigits s.size)) := by
    show _ = _
    rw [hTX, Pl.itoa_pos (by omega)]
    rfl
  have HTW := Pl.hid (fun w' (hw' : Mm.Tab w') => text_walk (s.size : Int) w' (by unfold Pl.In64; omega) hw')
  rw [← hTX] at HTW
  have hLs : (Pl.L s).length = s.size := Pl.L_length s
  have HLs := Pl.hid hLs
  clear hTX hLs
  have H13 : Hid ((TX ++ (⟨#[13, 10]⟩ : ByteArray)).size ≤ 23) := by
    show _ ≤ _
    rw [ByteArray.size_append, show (⟨#[13, 10]⟩ : ByteArray).size = 2 from rfl]
    omega
  go_wp2_with fail
  rw [← HW0eq.out, ← HPeq.out]
  refine (sign_4 w0).mono ?_
  rintro e w0' ⟨rfl, rfl⟩
  go_wp2_with (at_builtin; refine Mm.wp_app1N w0 rfl _ _ (by rfl) base v l 36 (by rfl) (by rfl) HO0.out (by omega) hb0 ?_; intro v1 w1 ho1 hb1 hn1; have HO1 := Pl.hid ho1; have HB1 := Pl.hid hb1; have HN1 := Pl.hid hn1; clear ho1 hb1 hn1 k0 k1; obtain ⟨k0, k1⟩ := HK.out w1 HN1.out)
  have HW1 : Hid (Below W.heap.size W w1) := HW.out.trans (((HB0.out.mono HBB.out).trans HB1.out).mono HWb.out)
  refine (HTW.out w1 (HT.out.on HW1.out)).mono ?_
  rintro e w2 ⟨rfl, hb2⟩
  have HN2 := Pl.hid (HN1.out.trans (Mm.NB.below hb2))
  have HB2 := Pl.hid (HB1.out.trans (hb2.mono (Nat.le_trans hb0 HB1.out.size)))
  have HO2 : Hid (Mm.OwnB w2 base v1 (l ++ [36])) := HO1.out.keep fun g hg => hb2.block g (HO1.out.lt g hg).2
  clear hb2 k0 k1
  obtain ⟨k0, k1⟩ := HK.out w2 HN2.out
  have hb2s : base ≤ w2.heap.size := Nat.le_trans hb0 HB2.out.size
  have HL3 : Hid ((l ++ [36] ++ Pl.L (TX ++ (⟨#[13, 10]⟩ : ByteArray))).length ≤ 1099511627900) := by
    show (l ++ [36] ++ Pl.L (TX ++ (⟨#[13, 10]⟩ : ByteArray))).length ≤ 1099511627900
    have h13 : (TX ++ (⟨#[13, 10]⟩ : ByteArray)).size ≤ 23 := H13.out
    rw [List.length_append, List.length_append, Pl.L_length]
    simp only [List.length_cons, List.length_nil]
    omega
  go_wp2_with (first
    | (at_builtin; refine Mm.wp_appSN w2 rfl _ _ (by rfl) base v1 (l ++ [36]) (TX ++ (⟨#[13, 10]⟩ : ByteArray)) (by rfl) (by rfl) HO2.out (by have := H13.out; rw [List.length_append]; simp only [List.length_cons, List.length_nil]; omega) hb2s ?_; intro v3 w3 ho3 hb3 hn3; have HO3 := Pl.hid ho3; have HB3 := Pl.hid (HB2.out.trans hb3); have HN3 := Pl.hid (HN2.out.trans hn3); clear ho3 hb3 hn3 k0 k1; obtain ⟨k0, k1⟩ := HK.out w3 HN3.out; have hb3s := Nat.le_trans hb0 HB3.out.size)
    | (at_builtin; refine Mm.wp_appSN w3 rfl _ _ (by rfl) base v3 _ s (by rfl) (by rfl) HO3.out (by have := HL3.out; omega) hb3s ?_; intro v4 w4 ho4 hb4 hn4; have HO4 := Pl.hid ho4; have HB4 := Pl.hid (HB3.out.trans hb4); have HN4 := Pl.hid (HN3.out.trans hn4); clear ho4 hb4 hn4; have hb4s := Nat.le_trans hb0 HB4.out.size)
    | (at_builtin; refine Mm.wp_appSN w4 rfl _ _ (by rfl) base v4 _ ⟨#[13, 10]⟩ (by rfl) (by rfl) HO4.out (by rw [List.length_append, HLs.out]; have := HL3.out; have : (⟨#[13, 10]⟩ : ByteArray).size = 2 := rfl; omega) hb4s ?_; intro v5 w5 ho5 hb5 hn5; have HO5 := Pl.hid ho5; have HB5 := Pl.hid (HB4.out.trans hb5); have HN5 := Pl.hid (HN4.out.trans hn5); clear ho5 hb5 hn5))
  go_ret
  refine ⟨v5, rfl, ?_, (HB0.out.mono HBB.out).trans HB5.out, (Mm.NB.below HB0.out).trans HN5.out⟩
  have h := HO5.out
  rw [HTX.out, show (⟨#[13, 10]⟩ : ByteArray) = Pl.B Pl.crlf from rfl, Pl.B_append, Pl.L_B, Pl.L_B] at h
  unfold Pl.bulkE
  rw [HLs.out]
  simpa using h
end Go.Proofs.YtgpbgldnaongnaaGreatDoor

namespace Go.Proofs.YtgpbgldnaongnaaGreatDoor
open Go.RowKit
set_option maxRecDepth 20000

namespace Pl
def bulkT (s : List UInt8) : RT := RT.mk 4 (B s) 0 []
def reqT (ws : List (List UInt8)) : RT := RT.mk 6 ⟨#[]⟩ 0 (ws.map bulkT)
theorem bulkE_len (s : List UInt8) (h : s.length ≤ 9223372036854775807) : (bulkE s).length ≤ s.length + 26 ∧ s.length + 5 ≤ (bulkE s).length := by
  have := dec_len s.length h
  unfold bulkE crlf
  simp only [List.length_append, List.length_cons, List.length_nil]
  omega
theorem flat_take (ws : List (List UInt8)) (i : Nat) (s : List UInt8) (h : ws[i]? = some s) : (ws.take (i + 1)).flatMap bulkE = (ws.take i).flatMap bulkE ++ bulkE s := by
  rw [List.take_add_one, h]
  simp
theorem flat_le (ws : List (List UInt8)) (i : Nat) : ((ws.take i).flatMap bulkE).length ≤ (ws.flatMap bulkE).length := by
  conv => rhs; rw [← List.take_append_drop i ws]
  rw [List.flatMap_append, List.length_append]
  omega
end Pl

set_option maxHeartbeats 8000000 in
theorem lay_arr (ws : List (List UInt8)) (c0 c1 c2 c3 : Value) (base : Nat) (v : Value) (l : List UInt8) (W w : World) (hT : Mm.Tab W) (hX : Mm.RepX W (Pl.reqT ws) [c0, c1, c2, c3]) (hW : Below W.heap.size W w) (hWb : W.heap.size ≤ base) (hb : base ≤ w.heap.size) (ho : Mm.OwnB w base v l)
    (hl : l.length + (Pl.reqE ws).length ≤ 1099511627776) (hn : ws.length ≤ 1099511627776) (hs : ∀ s ∈ ws, s.length ≤ 1099511627776) :
    Calls Tryz.prog 22 #[v, .agg #[c0, c1, c2, c3]] w fun e w' => ∃ v', e = .returned v' ∧ Mm.OwnB w' base v' (l ++ Pl.reqE ws) ∧ Below base w w' ∧ Mm.NB w w' := by
  obtain ⟨la, lc, hcs, hel⟩ := hX.open
  obtain ⟨rfl, rfl, rfl, rfl⟩ : c0 = .int .i64 6 ∧ c1 = .string ⟨#[]⟩ ∧ c2 = .int .i64 0 ∧ c3 = .slice la (ws.map Pl.bulkT).length lc := by
    injection hcs with h0 hcs
    injection hcs with h1 hcs
    injection hcs with h2 hcs
    injection hcs with h3 hcs
    exact ⟨h0, h1, h2, h3⟩
  obtain ⟨n, hnn⟩ : ∃ n, n = ws.length := ⟨_, rfl⟩
  have hml : (ws.map Pl.bulkT).length = n := by rw [List.length_map, hnn]
  have hel' : n = 0 ∨ ∃ b, la = some ⟨b, 0, none⟩ ∧ b < W.heap.size ∧ ∀ (i : Nat) (s : List UInt8), ws[i]? = some s → ∃ f0 f1 f2 f3, W.cell? ⟨b, i * 4, none⟩ = some f0 ∧ W.cell? ⟨b, i * 4 + 1, none⟩ = some f1 ∧ W.cell? ⟨b, i * 4 + 2, none⟩ = some f2 ∧ W.cell? ⟨b, i * 4 + 3, none⟩ = some f3 ∧ Mm.RepX W (Pl.bulkT s) [f0, f1, f2, f3] := by
    rcases hel with h0 | ⟨b, h1, h2, h3⟩
    · exact .inl (by omega)
    · refine .inr ⟨b, h1, h2, fun i s hs => ?_⟩
      have hi : i < (ws.map Pl.bulkT).length := by rw [List.length_map]; exact (List.getElem?_eq_some_iff.1 hs).1
      obtain ⟨f0, f1, f2, f3, g0, g1, g2, g3, hr⟩ := h3 i hi
      refine ⟨f0, f1, f2, f3, g0, g1, g2, g3, ?_⟩
      have e : (ws.map Pl.bulkT)[i]'hi = Pl.bulkT s := by
        have : (ws.map Pl.bulkT)[i]? = some (Pl.bulkT s) := by rw [List.getElem?_map, hs]; rfl
        rw [List.getElem?_eq_getElem hi] at this
        injection this
      rwa [e] at hr
  clear hel
  rw [hml]
  obtain ⟨p, hp⟩ : ∃ p, p = w.heap.size := ⟨_, rfl⟩
  obtain ⟨w0, hw0⟩ : ∃ w0, w0 = w.alloc (.cells #[.int .i64 6, .string ⟨#[]⟩, .int .i64 0, .slice la n lc] 25) := ⟨_, rfl⟩
  have HP0 : Hid (w0.heap[p]? = some (.cells #[.int .i64 6, .string ⟨#[]⟩, .int .i64 0, .slice la n lc] 25 (0, 0))) := by
    show _ = _
    rw [hw0, hp]
    exact heap_alloc_new w _
  have HB0 : Hid (Below w.heap.size w w0) := by rw [hw0]; exact (Below.refl _ _).alloc (Nat.le_refl _) _
  have HS0 : Hid (w0.heap.size = w.heap.size + 1) := by show _ = _; rw [hw0]; simp
  have hnu : ¬ Mm.isU8 (.cells #[.int .i64 6, .string ⟨#[]⟩, .int .i64 0, .slice la n lc] 25 (0, 0)) := by
    rintro ⟨cs, fr, e⟩
    injection e with _ e _
    exact absurd e (by decide)
  have HK : Hid (∀ V, Mm.NB w0 V → V.cell? ⟨p, 0, none⟩ = some (.int .i64 6) ∧ V.cell? ⟨p, 3, none⟩ = some (.slice la n lc)) := fun V hV => by
    have h := hV p _ HP0.out hnu
    exact ⟨Mm.cellOf h rfl, Mm.cellOf h rfl⟩
  have HO0 : Hid (Mm.OwnB w0 base v l) := ho.keep fun g hg => HB0.out.block g (ho.lt g hg).2
  have HW := Pl.hid hW
  have HT := Pl.hid hT
  have HWb := Pl.hid hWb
  have hb0 : base ≤ w0.heap.size := by rw [HS0.out]; omega
  have HBB := Pl.hid hb
  have HEL := Pl.hid hel'
  have HNN := Pl.hid hnn
  have HSS := Pl.hid hs
  obtain ⟨k0, k3⟩ := HK.out w0 (Mm.NB.refl _)
  have HW0eq := Pl.hid hw0
  have HPeq := Pl.hid hp
  obtain ⟨TX, hTX⟩ : ∃ TX, TX = Pl.B (Lib.itoa (n : Int)) := ⟨_, rfl⟩
  have hn' : n ≤ 1099511627776 := by omega
  have hTs : TX.size ≤ 21 := by rw [hTX, Pl.B_size]; exact Pl.itoa_le _ (by unfold Pl.In64; omega)
  have HTX : Hid (TX = Pl.B (Lib.decDigits n)) := by
    show _ = _
    rw [hTX, Pl.itoa_pos (by omega)]
    rfl
  have HTW := Pl.hid (fun w' (hw' : Mm.Tab w') => text_walk (n : Int) w' (by unfold Pl.In64; omega) hw')
  rw [← hTX] at HTW
  have hlL : l.length ≤ 1099511627776 := by omega
  have HLL := Pl.hid hl
  have H13 : Hid ((TX ++ (⟨#[13, 10]⟩ : ByteArray)).size ≤ 23) := by
    show _ ≤ _
    rw [ByteArray.size_append, show (⟨#[13, 10]⟩ : ByteArray).size = 2 from rfl]
    omega
  have HE0 : Hid (l ++ [42] ++ Pl.L (TX ++ (⟨#[13, 10]⟩ : ByteArray)) = l ++ ([42] ++ Lib.decDigits n ++ Pl.crlf)) := by
    show _ = _
    rw [HTX.out, show (⟨#[13, 10]⟩ : ByteArray) = Pl.B Pl.crlf from rfl, Pl.B_append, Pl.L_B]
    simp
  clear hTX hw0 hp hnu ho hW hT hX hcs hel' hml hnn hs hl
  go_enter Tryz.func22, Tryz.ntmps22
  go_wp2_with fail
  rw [← HW0eq.out, ← HPeq.out]
  refine (sign_6 w0).mono ?_
  rintro e w0' ⟨rfl, rfl⟩
  go_wp2_with (at_builtin; refine Mm.wp_app1N w0 rfl _ _ (by rfl) base v l 42 (by rfl) (by rfl) HO0.out (by omega) hb0 ?_; intro v1 w1 ho1 hb1 hn1; have HO1 := Pl.hid ho1; have HB1 := Pl.hid hb1; have HN1 := Pl.hid hn1; clear ho1 hb1 hn1 k0 k3; obtain ⟨k0, k3⟩ := HK.out w1 HN1.out)
  have HW1 : Hid (Below W.heap.size W w1) := HW.out.trans (((HB0.out.mono HBB.out).trans HB1.out).mono HWb.out)
  refine (HTW.out w1 (HT.out.on HW1.out)).mono ?_
  rintro e w2 ⟨rfl, hb2⟩
  have HN2 := Pl.hid (HN1.out.trans (Mm.NB.below hb2))
  have HB2 := Pl.hid (HB1.out.trans (hb2.mono (Nat.le_trans hb0 HB1.out.size)))
  have HO2 : Hid (Mm.OwnB w2 base v1 (l ++ [42])) := HO1.out.keep fun g hg => hb2.block g (HO1.out.lt g hg).2
  clear hb2 k0 k3
  obtain ⟨k0, k3⟩ := HK.out w2 HN2.out
  have hb2s : base ≤ w2.heap.size := Nat.le_trans hb0 HB2.out.size
  go_wp2_with (at_builtin; refine Mm.wp_appSN w2 rfl _ _ (by rfl) base v1 (l ++ [42]) (TX ++ (⟨#[13, 10]⟩ : ByteArray)) (by rfl) (by rfl) HO2.out (by have := H13.out; rw [List.length_append]; simp only [List.length_cons, List.length_nil]; omega) hb2s ?_; intro v3 w3 ho3 hb3 hn3; rw [HE0.out] at ho3; have HO3 := Pl.hid ho3; have HB3 := Pl.hid (HB2.out.trans hb3); have HN3 := Pl.hid (HN2.out.trans hn3); clear ho3 hb3 hn3 k0 k3; obtain ⟨k0, k3⟩ := HK.out w3 HN3.out)
  have HB03 : Hid (Below base w w3) := (HB0.out.mono HBB.out).trans HB3.out
  clear k0 k3
  go_loopw [50, 0] (fun iv bvv wr => ∃ (i : Nat) (bv : Value), iv = .int .i64 i ∧ bv = bvv ∧ i ≤ n ∧ Hid (Mm.OwnB wr base bv (l ++ ([42] ++ Lib.decDigits n ++ Pl.crlf) ++ (ws.take i).flatMap Pl.bulkE)) ∧ Hid (Below base w wr) ∧ Hid (Mm.NB w0 wr)) (fun iv _ _ => n - (intOf iv).toNat)
  case atStart => exact ⟨0, _, rfl, rfl, Nat.zero_le _, by show Mm.OwnB _ _ _ _; rw [List.take_zero, List.flatMap_nil, List.append_nil]; exact HO3.out, HB03.out, HN3.out⟩
  case round =>
    obtain ⟨i, bv, rfl, rfl, hi, HO, HB, HN⟩ := hrel
    rcases Nat.lt_or_ge i n with hlt | hge
    · rcases HEL.out with h0 | ⟨blk, rfl, hbl, hel⟩
      · omega
      obtain ⟨s, hs⟩ : ∃ s, ws[i]? = some s := ⟨_, List.getElem?_eq_getElem (by rw [← HNN.out]; exact hlt)⟩
      obtain ⟨f0, f1, f2, f3, g0, g1, g2, g3, hrep⟩ := hel i s hs
      have HWr : Hid (Below W.heap.size W wr) := HW.out.trans (HB.out.mono HWb.out)
      have e0 := (HWr.out.cell (p := ⟨blk, i * 4, none⟩) hbl).trans g0
      have e1 := (HWr.out.cell (p := ⟨blk, i * 4 + 1, none⟩) hbl).trans g1
      have e2 := (HWr.out.cell (p := ⟨blk, i * 4 + 2, none⟩) hbl).trans g2
      have e3 := (HWr.out.cell (p := ⟨blk, i * 4 + 3, none⟩) hbl).trans g3
      have hone := hrep.one
      obtain ⟨la', lc', hcs', _⟩ := hrep.open
      obtain ⟨rfl, rfl, rfl, rfl⟩ : f0 = .int .i64 4 ∧ f1 = .string (Pl.B s) ∧ f2 = .int .i64 0 ∧ f3 = .slice la' 0 lc' := by
        injection hcs' with h0 hcs'
        injection hcs' with h1 hcs'
        injection hcs' with h2 hcs'
        injection hcs' with h3 hcs'
        exact ⟨h0, h1, h2, h3⟩
      have HONE := Pl.hid hone
      have HS := Pl.hid hs
      have hsl : s.length ≤ 1099511627776 := HSS.out s (List.mem_of_getElem? hs)
      clear g0 g1 g2 g3 hrep hcs' hel hs hone
      obtain ⟨q, hq⟩ : ∃ q, q = wr.heap.size := ⟨_, rfl⟩
      have HQ := Pl.hid hq
      clear hq
      go_wp2_with (refine Mm.wp_store4 _ rfl _ _ rfl wr.heap.size _ _ _ _ _ _ (heap_alloc_new wr _) rfl rfl rfl HONE.out ?_; intro w4 hw4 hs4 hg4; have HW4 := Pl.hid hw4; have HG4 := Pl.hid hg4; have HS4 := Pl.hid hs4; clear hw4 hs4 hg4; have q0 := Mm.cellOf (i := 0) (v := .int .i64 4) HW4.out rfl; have q1 := Mm.cellOf (i := 1) (v := .string (Pl.B s)) HW4.out rfl; have q2 := Mm.cellOf (i := 2) (v := .int .i64 0) HW4.out rfl; have q3 := Mm.cellOf (i := 3) (v := .slice la' 0 lc') HW4.out rfl; clear e0 e1 e2 e3)
      have HN4 : Hid (Mm.NB w0 w4) := by
        refine HN.out.trans fun g o hg _ => ?_
        have hgl := (Array.getElem?_eq_some_iff.1 hg).1
        exact (HG4.out.block g (by simp; omega) (fun e => by injection e with e; omega)).trans ((Below.heap_alloc _ _ _ hgl).trans hg)
      have HB4 : Hid (Below base w w4) := by
        have hz : base ≤ wr.heap.size := Nat.le_trans HBB.out HB.out.size
        refine (HB.out.alloc hz (.cells #[.int .i64 0, .string ⟨#[]⟩, .int .i64 0, .slice none 0 0] 25)).grown HG4.out (by simp; omega) (fun k hk => by injection hk with hk; omega)
      have HO4 : Hid (Mm.OwnB w4 base bv (l ++ ([42] ++ Lib.decDigits n ++ Pl.crlf) ++ (ws.take i).flatMap Pl.bulkE)) := (HO.out.keep (w' := wr.alloc (.cells #[.int .i64 0, .string ⟨#[]⟩, .int .i64 0, .slice none 0 0] 25)) (fun g hg => Below.heap_alloc _ _ _ (HO.out.lt g hg).2)).keep fun g hg => HG4.out.block g (by have := (HO.out.lt g hg).2; simp; omega) (fun e => by injection e with e; have := (HO.out.lt g hg).2; omega)
      have hb4 : base ≤ w4.heap.size := Nat.le_trans HBB.out HB4.out.size
      have hlen4 : (l ++ ([42] ++ Lib.decDigits n ++ Pl.crlf) ++ (ws.take i).flatMap Pl.bulkE).length ≤ 1099511627776 := by
        have h1 := Pl.flat_le ws i
        have h2 := HLL.out
        rw [HNN.out]
        unfold Pl.reqE at h2
        simp only [List.length_append] at h2 ⊢
        omega
      refine (lay_bulk (Pl.B s) la' lc' base bv _ W w4 HT.out (HW.out.trans (HB4.out.mono HWb.out)) HWb.out hb4 HO4.out hlen4 (by rw [Pl.B_size]; exact hsl)).mono ?_
      rintro e w5 ⟨v5, rfl, ho5, hb5, hn5⟩
      have HO5 : Hid (Mm.OwnB w5 base v5 (l ++ ([42] ++ Lib.decDigits n ++ Pl.crlf) ++ (ws.take (i + 1)).flatMap Pl.bulkE)) := by
        rw [Pl.flat_take ws i s HS.out, ← List.append_assoc]
        rw [Pl.L_B] at ho5
        exact ho5
      have HB5 := Pl.hid (HB4.out.trans hb5)
      have HN5 := Pl.hid (HN4.out.trans hn5)
      clear ho5 hb5 hn5 q0 q1 q2 q3
      go_wp2_with fail
      go_roundw
      case rel => exact ⟨i + 1, v5, by go_num, rfl, by omega, HO5, HB5, HN5⟩
      case measure => simp [intOf]; omega
    · obtain rfl : i = n := by omega
      go_wp2_with fail
      go_ret
      refine ⟨_, rfl, ?_, HB.out, (Mm.NB.below HB0.out).trans HN.out⟩
      have h := HO.out
      rw [HNN.out, List.take_length] at h
      unfold Pl.reqE
      simpa using h
end Go.Proofs.YtgpbgldnaongnaaGreatDoor

namespace Go.Proofs.YtgpbgldnaongnaaGreatDoor
open Go.RowKit
set_option maxRecDepth 20000

namespace Mm
open Pl
/-- a reply that can be read, its lists at any place of their blocks -/
inductive RepY (w : World) : RT → List Value → Prop
  | mk (k : Int) (s : ByteArray) (n : Int) (l : List RT) (a : Option Addr) (c b o : Nat) (f : Nat → Nat → Value) (ha : l.length = 0 ∨ a = some ⟨b, o, none⟩)
      (hc : ∀ i, i < l.length → ∀ j, j < 4 → w.cell? ⟨b, o + i * 4 + j, none⟩ = some (f i j)) (hr : ∀ (i : Nat) (hi : i < l.length), RepY w (l[i]'hi) [f i 0, f i 1, f i 2, f i 3]) :
      RepY w (.mk k s n l) [.int .i64 k, .string s, .int .i64 n, .slice a l.length c]

theorem RepY.one {w : World} {t : RT} {cs : List Value} (h : RepY w t cs) : ∀ u ∈ cs, u.oneCell' = true := by
  cases h with
  | mk k s n l a c b o f ha hc hr =>
    intro u hu
    simp only [List.mem_cons, List.mem_nil_iff, or_false] at hu
    rcases hu with rfl | rfl | rfl | rfl <;> rfl
theorem RepY.open {w : World} {k : Int} {s : ByteArray} {n : Int} {l : List RT} {cs : List Value} (h : RepY w (.mk k s n l) cs) :
    ∃ (a : Option Addr) (cap : Nat), cs = [.int .i64 k, .string s, .int .i64 n, .slice a l.length cap] ∧ (l.length = 0 ∨ ∃ b bo, a = some ⟨b, bo, none⟩ ∧ b < w.heap.size ∧
      ∀ i (hi : i < l.length), ∃ c0 c1 c2 c3, w.cell? ⟨b, bo + i * 4, none⟩ = some c0 ∧ w.cell? ⟨b, bo + i * 4 + 1, none⟩ = some c1 ∧ w.cell? ⟨b, bo + i * 4 + 2, none⟩ = some c2 ∧ w.cell? ⟨b, bo + i * 4 + 3, none⟩ = some c3 ∧ RepY w (l[i]'hi) [c0, c1, c2, c3]) := by
  cases h with
  | mk k s n l a c b o f ha hc hr =>
    refine ⟨a, c, rfl, ?_⟩
    rcases Nat.eq_zero_or_pos l.length with h0 | h0
    · exact .inl h0
    · rcases ha with ha | ha
      · exact .inl ha
      · refine .inr ⟨b, o, ha, World.block_lt_of_cell? _ _ (hc 0 h0 0 (by decide)), fun i hi => ⟨f i 0, f i 1, f i 2, f i 3, ?_, ?_, ?_, ?_, hr i hi⟩⟩
        · exact hc i hi 0 (by decide)
        · exact hc i hi 1 (by decide)
        · exact hc i hi 2 (by decide)
        · exact hc i hi 3 (by decide)
theorem RepY.keep {w w' : World} (hb : Below w.heap.size w w') : ∀ (t : RT) (cs : List Value), RepY w t cs → RepY w' t cs := by
  intro t
  induction t using RT.ind with
  | h k s n l ih =>
    intro cs h
    cases h with
    | mk k s n l a c b o f ha hc hr =>
      refine .mk k s n l a c b o f ha (fun i hi j hj => ?_) (fun i hi => ih _ (List.getElem_mem hi) _ (hr i hi))
      have h0 := hc i hi j hj
      exact (hb.cell (p := ⟨b, o + i * 4 + j, none⟩) (World.block_lt_of_cell? _ _ h0)).trans h0
/-- a reply without a list -/
theorem RepY.leaf (w : World) (k : Int) (s : ByteArray) (n : Int) : RepY w (.mk k s n []) [.int .i64 k, .string s, .int .i64 n, .slice none 0 0] :=
  .mk k s n [] none 0 0 0 (fun _ _ => .nilIface) (.inl rfl) (fun i hi => absurd hi (by simp)) (fun i hi => absurd hi (by simp))
theorem OwnB.base0 {w : World} {b b' : Nat} {v : Value} {l : List UInt8} (h : OwnB w b v l) (hb : b' ≤ b) : OwnB w b' v l := by
  obtain ⟨hl, h0 | ⟨g, cap, cur, hv, hg, r⟩⟩ := h
  · exact ⟨hl, .inl h0⟩
  · exact ⟨hl, .inr ⟨g, cap, cur, hv, Nat.le_trans hb hg, r⟩⟩
end Mm
end Go.Proofs.YtgpbgldnaongnaaGreatDoor

namespace Go.Proofs.YtgpbgldnaongnaaGreatDoor
open Go.RowKit
set_option maxRecDepth 20000

theorem sign_1 (w : World) : Calls Tryz.prog 31 #[.int .i64 1] w fun e w' => e = .returned (.int .u8 43) ∧ w = w' := by
  go_enter Tryz.func31, Tryz.ntmps31
  go_wp2_with fail
  go_ret
  exact ⟨rfl, rfl⟩
theorem sign_2 (w : World) : Calls Tryz.prog 31 #[.int .i64 2] w fun e w' => e = .returned (.int .u8 45) ∧ w = w' := by
  go_enter Tryz.func31, Tryz.ntmps31
  go_wp2_with fail
  go_ret
  exact ⟨rfl, rfl⟩
theorem sign_3 (w : World) : Calls Tryz.prog 31 #[.int .i64 3] w fun e w' => e = .returned (.int .u8 58) ∧ w = w' := by
  go_enter Tryz.func31, Tryz.ntmps31
  go_wp2_with fail
  go_ret
  exact ⟨rfl, rfl⟩
theorem sign_7 (w : World) : Calls Tryz.prog 31 #[.int .i64 7] w fun e w' => e = .returned (.int .u8 42) ∧ w = w' := by
  go_enter Tryz.func31, Tryz.ntmps31
  go_wp2_with fail
  go_ret
  exact ⟨rfl, rfl⟩
theorem sign_5b (w : World) : Calls Tryz.prog 31 #[.int .i64 5] w fun e w' => e = .returned (.int .u8 36) ∧ w = w' := by
  go_enter Tryz.func31, Tryz.ntmps31
  go_wp2_with fail
  go_ret
  exact ⟨rfl, rfl⟩
set_option maxHeartbeats 4000000 in
theorem lay_text1 (s : ByteArray) (la : Option Addr) (lc base : Nat) (v : Value) (l : List UInt8) (w : World) (hb : base ≤ w.heap.size) (ho : Mm.OwnB w base v l) (hl : l.length ≤ 1099511627776) (hs : s.size ≤ 1099511627776) :
    Calls Tryz.prog 22 #[v, .agg #[.int .i64 1, .string s, .int .i64 0, .slice la 0 lc]] w fun e w' => ∃ v', e = .returned v' ∧ Mm.OwnB w' base v' (l ++ ([43] ++ Pl.L s ++ Pl.crlf)) ∧ Below base w w' ∧ Mm.NB w w' := by
  obtain ⟨p, hp⟩ : ∃ p, p = w.heap.size := ⟨_, rfl⟩
  obtain ⟨w0, hw0⟩ : ∃ w0, w0 = w.alloc (.cells #[.int .i64 1, .string s, .int .i64 0, .slice la 0 lc] 25) := ⟨_, rfl⟩
  have HP0 : Hid (w0.heap[p]? = some (.cells #[.int .i64 1, .string s, .int .i64 0, .slice la 0 lc] 25 (0, 0))) := by
    show _ = _
    rw [hw0, hp]
    exact heap_alloc_new w _
  have HB0 : Hid (Below w.heap.size w w0) := by rw [hw0]; exact (Below.refl _ _).alloc (Nat.le_refl _) _
  have HS0 : Hid (w0.heap.size = w.heap.size + 1) := by show _ = _; rw [hw0]; simp
  have hnu : ¬ Mm.isU8 (.cells #[.int .i64 1, .string s, .int .i64 0, .slice la 0 lc] 25 (0, 0)) := by
    rintro ⟨cs, fr, e⟩
    injection e with _ e _
    exact absurd e (by decide)
  have HK : Hid (∀ V, Mm.NB w0 V → V.cell? ⟨p, 0, none⟩ = some (.int .i64 1) ∧ V.cell? ⟨p, 1, none⟩ = some (.string s) ∧ V.cell? ⟨p, 2, none⟩ = some (.int .i64 0)) := fun V hV => by
    have h := hV p _ HP0.out hnu
    exact ⟨Mm.cellOf h rfl, Mm.cellOf h rfl, Mm.cellOf h rfl⟩
  have HO0 : Hid (Mm.OwnB w0 base v l) := ho.keep fun g hg => HB0.out.block g (ho.lt g hg).2
  have hb0 : base ≤ w0.heap.size := by rw [HS0.out]; omega
  have HBB := Pl.hid hb
  obtain ⟨k0, k1, k2⟩ := HK.out w0 (Mm.NB.refl _)
  have HW0eq := Pl.hid hw0
  have HPeq := Pl.hid hp
  have HLs := Pl.hid (Pl.L_length s)
  have HE1 : Hid ((l ++ [43]).length ≤ 1099511627777) := by show (l ++ [43]).length ≤ _; simp; omega
  have HE2 : Hid ((l ++ [43] ++ Pl.L s).length ≤ 2199023255553) := by show (l ++ [43] ++ Pl.L s).length ≤ _; simp [Pl.L_length]; omega
  clear hw0 hp hnu ho
  go_enter Tryz.func22, Tryz.ntmps22
  go_wp2_with fail
  rw [← HW0eq.out, ← HPeq.out]
  refine (sign_1 w0).mono ?_
  rintro e w0' ⟨rfl, rfl⟩
  go_wp2_with (first
    | (at_builtin; refine Mm.wp_app1N w0 rfl _ _ (by rfl) base v l 43 (by rfl) (by rfl) HO0.out (by omega) hb0 ?_; intro v1 w1 ho1 hb1 hn1; have HO1 := Pl.hid ho1; have HB1 := Pl.hid hb1; have HN1 := Pl.hid hn1; clear ho1 hb1 hn1 k0 k1 k2; obtain ⟨k0, k1, k2⟩ := HK.out w1 HN1.out; have hb1s := Nat.le_trans hb0 HB1.out.size)
    | (at_builtin; refine Mm.wp_appSN w1 rfl _ _ (by rfl) base v1 _ s (by rfl) (by rfl) HO1.out (by have := HE1.out; omega) hb1s ?_; intro v3 w3 ho3 hb3 hn3; have HO3 := Pl.hid ho3; have HB3 := Pl.hid (HB1.out.trans hb3); have HN3 := Pl.hid (HN1.out.trans hn3); clear ho3 hb3 hn3; have hb3s := Nat.le_trans hb0 HB3.out.size)
    | (at_builtin; refine Mm.wp_appSN w3 rfl _ _ (by rfl) base v3 _ ⟨#[13, 10]⟩ (by rfl) (by rfl) HO3.out (by have := HE2.out; have : (⟨#[13, 10]⟩ : ByteArray).size = 2 := rfl; omega) hb3s ?_; intro v4 w4 ho4 hb4 hn4; have HO4 := Pl.hid ho4; have HB4 := Pl.hid (HB3.out.trans hb4); have HN4 := Pl.hid (HN3.out.trans hn4); clear ho4 hb4 hn4; have hb4s := Nat.le_trans hb0 HB4.out.size))
  go_ret
  refine ⟨v4, rfl, ?_, (HB0.out.mono HBB.out).trans HB4.out, (Mm.NB.below HB0.out).trans HN4.out⟩
  have h := HO4.out
  rw [show (⟨#[13, 10]⟩ : ByteArray) = Pl.B Pl.crlf from rfl, Pl.L_B] at h
  simpa using h
set_option maxHeartbeats 4000000 in
theorem lay_text2 (s : ByteArray) (la : Option Addr) (lc base : Nat) (v : Value) (l : List UInt8) (w : World) (hb : base ≤ w.heap.size) (ho : Mm.OwnB w base v l) (hl : l.length ≤ 1099511627776) (hs : s.size ≤ 1099511627776) :
    Calls Tryz.prog 22 #[v, .agg #[.int .i64 2, .string s, .int .i64 0, .slice la 0 lc]] w fun e w' => ∃ v', e = .returned v' ∧ Mm.OwnB w' base v' (l ++ ([45] ++ Pl.L s ++ Pl.crlf)) ∧ Below base w w' ∧ Mm.NB w w' := by
  obtain ⟨p, hp⟩ : ∃ p, p = w.heap.size := ⟨_, rfl⟩
  obtain ⟨w0, hw0⟩ : ∃ w0, w0 = w.alloc (.cells #[.int .i64 2, .string s, .int .i64 0, .slice la 0 lc] 25) := ⟨_, rfl⟩
  have HP0 : Hid (w0.heap[p]? = some (.cells #[.int .i64 2, .string s, .int .i64 0, .slice la 0 lc] 25 (0, 0))) := by
    show _ = _
    rw [hw0, hp]
    exact heap_alloc_new w _
  have HB0 : Hid (Below w.heap.size w w0) := by rw [hw0]; exact (Below.refl _ _).alloc (Nat.le_refl _) _
  have HS0 : Hid (w0.heap.size = w.heap.size + 1) := by show _ = _; rw [hw0]; simp
  have hnu : ¬ Mm.isU8 (.cells #[.int .i64 2, .string s, .int .i64 0, .slice la 0 lc] 25 (0, 0)) := by
    rintro ⟨cs, fr, e⟩
    injection e with _ e _
    exact absurd e (by decide)
  have HK : Hid (∀ V, Mm.NB w0 V → V.cell? ⟨p, 0, none⟩ = some (.int .i64 2) ∧ V.cell? ⟨p, 1, none⟩ = some (.string s) ∧ V.cell? ⟨p, 2, none⟩ = some (.int .i64 0)) := fun V hV => by
    have h := hV p _ HP0.out hnu
    exact ⟨Mm.cellOf h rfl, Mm.cellOf h rfl, Mm.cellOf h rfl⟩
  have HO0 : Hid (Mm.OwnB w0 base v l) := ho.keep fun g hg => HB0.out.block g (ho.lt g hg).2
  have hb0 : base ≤ w0.heap.size := by rw [HS0.out]; omega
  have HBB := Pl.hid hb
  obtain ⟨k0, k1, k2⟩ := HK.out w0 (Mm.NB.refl _)
  have HW0eq := Pl.hid hw0
  have HPeq := Pl.hid hp
  have HLs := Pl.hid (Pl.L_length s)
  have HE1 : Hid ((l ++ [45]).length ≤ 1099511627777) := by show (l ++ [45]).length ≤ _; simp; omega
  have HE2 : Hid ((l ++ [45] ++ Pl.L s).length ≤ 2199023255553) := by show (l ++ [45] ++ Pl.L s).length ≤ _; simp [Pl.L_length]; omega
  clear hw0 hp hnu ho
  go_enter Tryz.func22, Tryz.ntmps22
  go_wp2_with fail
  rw [← HW0eq.out, ← HPeq.out]
  refine (sign_2 w0).mono ?_
  rintro e w0' ⟨rfl, rfl⟩
  go_wp2_with (first
    | (at_builtin; refine Mm.wp_app1N w0 rfl _ _ (by rfl) base v l 45 (by rfl) (by rfl) HO0.out (by omega) hb0 ?_; intro v1 w1 ho1 hb1 hn1; have HO1 := Pl.hid ho1; have HB1 := Pl.hid hb1; have HN1 := Pl.hid hn1; clear ho1 hb1 hn1 k0 k1 k2; obtain ⟨k0, k1, k2⟩ := HK.out w1 HN1.out; have hb1s := Nat.le_trans hb0 HB1.out.size)
    | (at_builtin; refine Mm.wp_appSN w1 rfl _ _ (by rfl) base v1 _ s (by rfl) (by rfl) HO1.out (by have := HE1.out; omega) hb1s ?_; intro v3 w3 ho3 hb3 hn3; have HO3 := Pl.hid ho3; have HB3 := Pl.hid (HB1.out.trans hb3); have HN3 := Pl.hid (HN1.out.trans hn3); clear ho3 hb3 hn3; have hb3s := Nat.le_trans hb0 HB3.out.size)
    | (at_builtin; refine Mm.wp_appSN w3 rfl _ _ (by rfl) base v3 _ ⟨#[13, 10]⟩ (by rfl) (by rfl) HO3.out (by have := HE2.out; have : (⟨#[13, 10]⟩ : ByteArray).size = 2 := rfl; omega) hb3s ?_; intro v4 w4 ho4 hb4 hn4; have HO4 := Pl.hid ho4; have HB4 := Pl.hid (HB3.out.trans hb4); have HN4 := Pl.hid (HN3.out.trans hn4); clear ho4 hb4 hn4; have hb4s := Nat.le_trans hb0 HB4.out.size))
  go_ret
  refine ⟨v4, rfl, ?_, (HB0.out.mono HBB.out).trans HB4.out, (Mm.NB.below HB0.out).trans HN4.out⟩
  have h := HO4.out
  rw [show (⟨#[13, 10]⟩ : ByteArray) = Pl.B Pl.crlf from rfl, Pl.L_B] at h
  simpa using h
set_option maxHeartbeats 4000000 in
theorem lay_int (s : ByteArray) (n : Int) (hn : Pl.In64 n) (la : Option Addr) (lc base : Nat) (v : Value) (l : List UInt8) (W w : World) (hT : Mm.Tab W) (hW : Below W.heap.size W w) (hWb : W.heap.size ≤ base) (hb : base ≤ w.heap.size) (ho : Mm.OwnB w base v l) (hl : l.length ≤ 1099511627776) :
    Calls Tryz.prog 22 #[v, .agg #[.int .i64 3, .string s, .int .i64 n, .slice la 0 lc]] w fun e w' => ∃ v', e = .returned v' ∧ Mm.OwnB w' base v' (l ++ ([58] ++ Lib.itoa n ++ Pl.crlf)) ∧ Below base w w' ∧ Mm.NB w w' := by
  obtain ⟨p, hp⟩ : ∃ p, p = w.heap.size := ⟨_, rfl⟩
  obtain ⟨w0, hw0⟩ : ∃ w0, w0 = w.alloc (.cells #[.int .i64 3, .string s, .int .i64 n, .slice la 0 lc] 25) := ⟨_, rfl⟩
  have HP0 : Hid (w0.heap[p]? = some (.cells #[.int .i64 3, .string s, .int .i64 n, .slice la 0 lc] 25 (0, 0))) := by
    show _ = _
    rw [hw0, hp]
    exact heap_alloc_new w _
  have HB0 : Hid (Below w.heap.size w w0) := by rw [hw0]; exact (Below.refl _ _).alloc (Nat.le_refl _) _
  have HS0 : Hid (w0.heap.size = w.heap.size + 1) := by show _ = _; rw [hw0]; simp
  have hnu : ¬ Mm.isU8 (.cells #[.int .i64 3, .string s, .int .i64 n, .slice la 0 lc] 25 (0, 0)) := by
    rintro ⟨cs, fr, e⟩
    injection e with _ e _
    exact absurd e (by decide)
  have HK : Hid (∀ V, Mm.NB w0 V → V.cell? ⟨p, 0, none⟩ = some (.int .i64 3) ∧ V.cell? ⟨p, 1, none⟩ = some (.string s) ∧ V.cell? ⟨p, 2, none⟩ = some (.int .i64 n)) := fun V hV => by
    have h := hV p _ HP0.out hnu
    exact ⟨Mm.cellOf h rfl, Mm.cellOf h rfl, Mm.cellOf h rfl⟩
  have HO0 : Hid (Mm.OwnB w0 base v l) := ho.keep fun g hg => HB0.out.block g (ho.lt g hg).2
  have hb0 : base ≤ w0.heap.size := by rw [HS0.out]; omega
  have HBB := Pl.hid hb
  obtain ⟨k0, k1, k2⟩ := HK.out w0 (Mm.NB.refl _)
  have HW0eq := Pl.hid hw0
  have HPeq := Pl.hid hp
  obtain ⟨TX, hTX⟩ : ∃ TX, TX = Pl.B (Lib.itoa n) := ⟨_, rfl⟩
  have hTs : TX.size ≤ 21 := by rw [hTX, Pl.B_size]; exact Pl.itoa_le _ hn
  have HTX := Pl.hid hTX
  have HTW := Pl.hid (fun w' (hw' : Mm.Tab w') => text_walk n w' hn hw')
  rw [← hTX] at HTW
  have HW := Pl.hid hW
  have HT := Pl.hid hT
  have HWb := Pl.hid hWb
  have HE1 : Hid ((l ++ [58]).length ≤ 1099511627777) := by show (l ++ [58]).length ≤ _; simp; omega
  have HE2 : Hid ((l ++ [58] ++ Pl.L TX).length ≤ 2199023255553) := by show (l ++ [58] ++ Pl.L TX).length ≤ _; simp [Pl.L_length]; omega
  clear hw0 hp hnu ho hT hW hTX hn
  go_enter Tryz.func22, Tryz.ntmps22
  go_wp2_with fail
  rw [← HW0eq.out, ← HPeq.out]
  refine (sign_3 w0).mono ?_
  rintro e w0' ⟨rfl, rfl⟩
  go_wp2_with (at_builtin; refine Mm.wp_app1N w0 rfl _ _ (by rfl) base v l 58 (by rfl) (by rfl) HO0.out (by omega) hb0 ?_; intro v1 w1 ho1 hb1 hn1; have HO1 := Pl.hid ho1; have HB1 := Pl.hid hb1; have HN1 := Pl.hid hn1; clear ho1 hb1 hn1 k0 k1 k2; obtain ⟨k0, k1, k2⟩ := HK.out w1 HN1.out; have hb1s := Nat.le_trans hb0 HB1.out.size)
  have HW1 : Hid (Below W.heap.size W w1) := HW.out.trans (((HB0.out.mono HBB.out).trans HB1.out).mono HWb.out)
  refine (HTW.out w1 (HT.out.on HW1.out)).mono ?_
  rintro e w2 ⟨rfl, hb2⟩
  have HN2 := Pl.hid (HN1.out.trans (Mm.NB.below hb2))
  have HB2 := Pl.hid (HB1.out.trans (hb2.mono (Nat.le_trans hb0 HB1.out.size)))
  have HO2 : Hid (Mm.OwnB w2 base v1 (l ++ [58])) := HO1.out.keep fun g hg => hb2.block g (HO1.out.lt g hg).2
  clear hb2 k0 k1 k2
  obtain ⟨k0, k1, k2⟩ := HK.out w2 HN2.out
  have hb2s : base ≤ w2.heap.size := Nat.le_trans hb0 HB2.out.size
  go_wp2_with (first
    | (at_builtin; refine Mm.wp_appSN w2 rfl _ _ (by rfl) base v1 _ TX (by rfl) (by rfl) HO2.out (by have := HE1.out; omega) hb2s ?_; intro v3 w3 ho3 hb3 hn3; have HO3 := Pl.hid ho3; have HB3 := Pl.hid (HB2.out.trans hb3); have HN3 := Pl.hid (HN2.out.trans hn3); clear ho3 hb3 hn3; have hb3s := Nat.le_trans hb0 HB3.out.size)
    | (at_builtin; refine Mm.wp_appSN w3 rfl _ _ (by rfl) base v3 _ ⟨#[13, 10]⟩ (by rfl) (by rfl) HO3.out (by have := HE2.out; have : (⟨#[13, 10]⟩ : ByteArray).size = 2 := rfl; omega) hb3s ?_; intro v4 w4 ho4 hb4 hn4; have HO4 := Pl.hid ho4; have HB4 := Pl.hid (HB3.out.trans hb4); have HN4 := Pl.hid (HN3.out.trans hn4); clear ho4 hb4 hn4; have hb4s := Nat.le_trans hb0 HB4.out.size))
  go_ret
  refine ⟨v4, rfl, ?_, (HB0.out.mono HBB.out).trans HB4.out, (Mm.NB.below HB0.out).trans HN4.out⟩
  have h := HO4.out
  rw [HTX.out, show (⟨#[13, 10]⟩ : ByteArray) = Pl.B Pl.crlf from rfl, Pl.L_B, Pl.L_B] at h
  simpa using h
set_option maxHeartbeats 4000000 in
theorem lay_neg5 (s : ByteArray) (la : Option Addr) (lc base : Nat) (v : Value) (l : List UInt8) (w : World) (hb : base ≤ w.heap.size) (ho : Mm.OwnB w base v l) (hl : l.length ≤ 1099511627776) :
    Calls Tryz.prog 22 #[v, .agg #[.int .i64 5, .string s, .int .i64 0, .slice la 0 lc]] w fun e w' => ∃ v', e = .returned v' ∧ Mm.OwnB w' base v' (l ++ [36, 45, 49, 13, 10]) ∧ Below base w w' ∧ Mm.NB w w' := by
  obtain ⟨p, hp⟩ : ∃ p, p = w.heap.size := ⟨_, rfl⟩
  obtain ⟨w0, hw0⟩ : ∃ w0, w0 = w.alloc (.cells #[.int .i64 5, .string s, .int .i64 0, .slice la 0 lc] 25) := ⟨_, rfl⟩
  have HP0 : Hid (w0.heap[p]? = some (.cells #[.int .i64 5, .string s, .int .i64 0, .slice la 0 lc] 25 (0, 0))) := by
    show _ = _
    rw [hw0, hp]
    exact heap_alloc_new w _
  have HB0 : Hid (Below w.heap.size w w0) := by rw [hw0]; exact (Below.refl _ _).alloc (Nat.le_refl _) _
  have HS0 : Hid (w0.heap.size = w.heap.size + 1) := by show _ = _; rw [hw0]; simp
  have hnu : ¬ Mm.isU8 (.cells #[.int .i64 5, .string s, .int .i64 0, .slice la 0 lc] 25 (0, 0)) := by
    rintro ⟨cs, fr, e⟩
    injection e with _ e _
    exact absurd e (by decide)
  have HK : Hid (∀ V, Mm.NB w0 V → V.cell? ⟨p, 0, none⟩ = some (.int .i64 5) ∧ V.cell? ⟨p, 1, none⟩ = some (.string s) ∧ V.cell? ⟨p, 2, none⟩ = some (.int .i64 0)) := fun V hV => by
    have h := hV p _ HP0.out hnu
    exact ⟨Mm.cellOf h rfl, Mm.cellOf h rfl, Mm.cellOf h rfl⟩
  have HO0 : Hid (Mm.OwnB w0 base v l) := ho.keep fun g hg => HB0.out.block g (ho.lt g hg).2
  have hb0 : base ≤ w0.heap.size := by rw [HS0.out]; omega
  have HBB := Pl.hid hb
  obtain ⟨k0, k1, k2⟩ := HK.out w0 (Mm.NB.refl _)
  have HW0eq := Pl.hid hw0
  have HPeq := Pl.hid hp
  have HE1 : Hid ((l ++ [36]).length ≤ 1099511627777) := by show (l ++ [36]).length ≤ _; simp; omega
  have HE2 : Hid ((l ++ [36] ++ Pl.L ⟨#[45, 49]⟩).length ≤ 2199023255553) := by show (l ++ [36] ++ [45, 49]).length ≤ 2199023255553; simp; omega
  clear hw0 hp hnu ho
  go_enter Tryz.func22, Tryz.ntmps22
  go_wp2_with fail
  rw [← HW0eq.out, ← HPeq.out]
  refine (sign_5b w0).mono ?_
  rintro e w0' ⟨rfl, rfl⟩
  go_wp2_with (first
    | (at_builtin; refine Mm.wp_app1N w0 rfl _ _ (by rfl) base v l 36 (by rfl) (by rfl) HO0.out (by omega) hb0 ?_; intro v1 w1 ho1 hb1 hn1; have HO1 := Pl.hid ho1; have HB1 := Pl.hid hb1; have HN1 := Pl.hid hn1; clear ho1 hb1 hn1 k0 k1 k2; obtain ⟨k0, k1, k2⟩ := HK.out w1 HN1.out; have hb1s := Nat.le_trans hb0 HB1.out.size)
    | (at_builtin; refine Mm.wp_appSN w1 rfl _ _ (by rfl) base v1 _ ⟨#[45, 49]⟩ (by rfl) (by rfl) HO1.out (by have := HE1.out; have : (⟨#[45, 49]⟩ : ByteArray).size = 2 := rfl; omega) hb1s ?_; intro v3 w3 ho3 hb3 hn3; have HO3 := Pl.hid ho3; have HB3 := Pl.hid (HB1.out.trans hb3); have HN3 := Pl.hid (HN1.out.trans hn3); clear ho3 hb3 hn3; have hb3s := Nat.le_trans hb0 HB3.out.size)
    | (at_builtin; refine Mm.wp_appSN w3 rfl _ _ (by rfl) base v3 _ ⟨#[13, 10]⟩ (by rfl) (by rfl) HO3.out (by have := HE2.out; have : (⟨#[13, 10]⟩ : ByteArray).size = 2 := rfl; omega) hb3s ?_; intro v4 w4 ho4 hb4 hn4; have HO4 := Pl.hid ho4; have HB4 := Pl.hid (HB3.out.trans hb4); have HN4 := Pl.hid (HN3.out.trans hn4); clear ho4 hb4 hn4; have hb4s := Nat.le_trans hb0 HB4.out.size))
  go_ret
  refine ⟨v4, rfl, ?_, (HB0.out.mono HBB.out).trans HB4.out, (Mm.NB.below HB0.out).trans HN4.out⟩
  have h := HO4.out
  rw [show (⟨#[13, 10]⟩ : ByteArray) = Pl.B Pl.crlf from rfl, show (⟨#[45, 49]⟩ : ByteArray) = Pl.B [45, 49] from rfl, Pl.L_B, Pl.L_B] at h
  simpa [Pl.crlf] using h
set_option maxHeartbeats 4000000 in
theorem lay_neg7 (s : ByteArray) (la : Option Addr) (lc base : Nat) (v : Value) (l : List UInt8) (w : World) (hb : base ≤ w.heap.size) (ho : Mm.OwnB w base v l) (hl : l.length ≤ 1099511627776) :
    Calls Tryz.prog 22 #[v, .agg #[.int .i64 7, .string s, .int .i64 0, .slice la 0 lc]] w fun e w' => ∃ v', e = .returned v' ∧ Mm.OwnB w' base v' (l ++ [42, 45, 49, 13, 10]) ∧ Below base w w' ∧ Mm.NB w w' := by
  obtain ⟨p, hp⟩ : ∃ p, p = w.heap.size := ⟨_, rfl⟩
  obtain ⟨w0, hw0⟩ : ∃ w0, w0 = w.alloc (.cells #[.int .i64 7, .string s, .int .i64 0, .slice la 0 lc] 25) := ⟨_, rfl⟩
  have HP0 : Hid (w0.heap[p]? = some (.cells #[.int .i64 7, .string s, .int .i64 0, .slice la 0 lc] 25 (0, 0))) := by
    show _ = _
    rw [hw0, hp]
    exact heap_alloc_new w _
  have HB0 : Hid (Below w.heap.size w w0) := by rw [hw0]; exact (Below.refl _ _).alloc (Nat.le_refl _) _
  have HS0 : Hid (w0.heap.size = w.heap.size + 1) := by show _ = _; rw [hw0]; simp
  have hnu : ¬ Mm.isU8 (.cells #[.int .i64 7, .string s, .int .i64 0, .slice la 0 lc] 25 (0, 0)) := by
    rintro ⟨cs, fr, e⟩
    injection e with _ e _
    exact absurd e (by decide)
  have HK : Hid (∀ V, Mm.NB w0 V → V.cell? ⟨p, 0, none⟩ = some (.int .i64 7) ∧ V.cell? ⟨p, 1, none⟩ = some (.string s) ∧ V.cell? ⟨p, 2, none⟩ = some (.int .i64 0)) := fun V hV => by
    have h := hV p _ HP0.out hnu
    exact ⟨Mm.cellOf h rfl, Mm.cellOf h rfl, Mm.cellOf h rfl⟩
  have HO0 : Hid (Mm.OwnB w0 base v l) := ho.keep fun g hg => HB0.out.block g (ho.lt g hg).2
  have hb0 : base ≤ w0.heap.size := by rw [HS0.out]; omega
  have HBB := Pl.hid hb
  obtain ⟨k0, k1, k2⟩ := HK.out w0 (Mm.NB.refl _)
  have HW0eq := Pl.hid hw0
  have HPeq := Pl.hid hp
  have HE1 : Hid ((l ++ [42]).length ≤ 1099511627777) := by show (l ++ [42]).length ≤ _; simp; omega
  have HE2 : Hid ((l ++ [42] ++ Pl.L ⟨#[45, 49]⟩).length ≤ 2199023255553) := by show (l ++ [42] ++ [45, 49]).length ≤ 2199023255553; simp; omega
  clear hw0 hp hnu ho
  go_enter Tryz.func22, Tryz.ntmps22
  go_wp2_with fail
  rw [← HW0eq.out, ← HPeq.out]
  refine (sign_7 w0).mono ?_
  rintro e w0' ⟨rfl, rfl⟩
  go_wp2_with (first
    | (at_builtin; refine Mm.wp_app1N w0 rfl _ _ (by rfl) base v l 42 (by rfl) (by rfl) HO0.out (by omega) hb0 ?_; intro v1 w1 ho1 hb1 hn1; have HO1 := Pl.hid ho1; have HB1 := Pl.hid hb1; have HN1 := Pl.hid hn1; clear ho1 hb1 hn1 k0 k1 k2; obtain ⟨k0, k1, k2⟩ := HK.out w1 HN1.out; have hb1s := Nat.le_trans hb0 HB1.out.size)
    | (at_builtin; refine Mm.wp_appSN w1 rfl _ _ (by rfl) base v1 _ ⟨#[45, 49]⟩ (by rfl) (by rfl) HO1.out (by have := HE1.out; have : (⟨#[45, 49]⟩ : ByteArray).size = 2 := rfl; omega) hb1s ?_; intro v3 w3 ho3 hb3 hn3; have HO3 := Pl.hid ho3; have HB3 := Pl.hid (HB1.out.trans hb3); have HN3 := Pl.hid (HN1.out.trans hn3); clear ho3 hb3 hn3; have hb3s := Nat.le_trans hb0 HB3.out.size)
    | (at_builtin; refine Mm.wp_appSN w3 rfl _ _ (by rfl) base v3 _ ⟨#[13, 10]⟩ (by rfl) (by rfl) HO3.out (by have := HE2.out; have : (⟨#[13, 10]⟩ : ByteArray).size = 2 := rfl; omega) hb3s ?_; intro v4 w4 ho4 hb4 hn4; have HO4 := Pl.hid ho4; have HB4 := Pl.hid (HB3.out.trans hb4); have HN4 := Pl.hid (HN3.out.trans hn4); clear ho4 hb4 hn4; have hb4s := Nat.le_trans hb0 HB4.out.size))
  go_ret
  refine ⟨v4, rfl, ?_, (HB0.out.mono HBB.out).trans HB4.out, (Mm.NB.below HB0.out).trans HN4.out⟩
  have h := HO4.out
  rw [show (⟨#[13, 10]⟩ : ByteArray) = Pl.B Pl.crlf from rfl, show (⟨#[45, 49]⟩ : ByteArray) = Pl.B [45, 49] from rfl, Pl.L_B, Pl.L_B] at h
  simpa [Pl.crlf] using h
end Go.Proofs.YtgpbgldnaongnaaGreatDoor
