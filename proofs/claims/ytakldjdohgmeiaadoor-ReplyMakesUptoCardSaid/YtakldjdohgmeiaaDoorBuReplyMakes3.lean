/- Replies as trees, and how they lie in memory. Conditions stand in each law. The makers of replies without a list. Conditions stand in each law. Rows whose cells are of no account: what an append, a store, leaves of them. Conditions stand in each law. The makers of arrays of replies. Conditions stand in each law. make and append of a row of replies, of texts; pantryref16.Array of no list. Conditions stand in each law. Conditions stand in each law. -/
import Derived.Test.YtakldjdohgmeiaaDoorBuReplyMakes2
import Derived.Maps.AppendAt
import Derived.Laws.ResultCell
import Derived.Laws.Rows
import Derived.Deep.DeepAppendRoom
import Derived.Laws.MakeOwn
import Derived.BigRegion
import Derived.Deep.RegionLaw
namespace Go.Proofs.YtakldjdohgmeiaaDoor
open Go.RowKit
set_option maxRecDepth 20000

/-- a reply: its kind, text, number, list -/
inductive RT where
  | mk (k : Int) (s : ByteArray) (n : Int) (l : List RT)

namespace RT
theorem ind {P : RT → Prop} (h : ∀ k s n l, (∀ x ∈ l, P x) → P (.mk k s n l)) (t : RT) : P t :=
  RT.rec (motive_1 := P) (motive_2 := fun l => ∀ x ∈ l, P x) (fun k s n l ih => h k s n l ih) (fun x hx => by cases hx)
    (fun a l ha hl x hx => by
      rcases List.mem_cons.1 hx with rfl | hx
      · exact ha
      · exact hl x hx) t
mutual
/-- a bound for a reply's bytes -/
def sz : RT → Nat
  | .mk _ s _ l => s.size + 25 + szL l
def szL : List RT → Nat
  | [] => 0
  | t :: ts => sz t + szL ts
end
theorem szL_append : ∀ (a b : List RT), szL (a ++ b) = szL a + szL b
  | [], b => by simp [szL]
  | x :: a, b => by simp [szL, szL_append a b, Nat.add_assoc]
theorem sz_mk (k : Int) (s : ByteArray) (n : Int) (l : List RT) : sz (.mk k s n l) = s.size + 25 + szL l := by simp [sz]
theorem szL_snoc (a : List RT) (t : RT) : szL (a ++ [t]) = szL a + sz t := by simp [szL_append, szL]
theorem sz_pos (t : RT) : 25 ≤ sz t := by cases t; rw [sz_mk]; omega
theorem szL_mem : ∀ {l : List RT} {t : RT}, t ∈ l → sz t ≤ szL l
  | x :: l, t, h => by
    rcases List.mem_cons.1 h with rfl | h
    · simp [szL]
    · have := szL_mem h
      simp only [szL]
      omega
theorem szL_len : ∀ l : List RT, 25 * l.length ≤ szL l
  | [] => by simp [szL]
  | t :: ts => by
    have := szL_len ts
    have := sz_pos t
    simp only [szL, List.length_cons]
    omega
end RT

namespace Mm
open Pl
theorem Tryd.info_rep : (Tryd.prog.info? 31).map (fun i => (i.zero, i.size, i.bytes)) = some (some (.agg #[.int .i64 0, .string ⟨#[]⟩, .int .i64 0, .slice none 0 0]), 4, 56) := by kernel_rfl

theorem Tryd.info_rl : (Tryd.prog.info? 29).map (·.size) = some 1 := by kernel_rfl
mutual
/-- four cells are a reply; the blocks of its lists -/
inductive RepB (w : World) : RT → List Value → List Nat → Prop
  | mk (k : Int) (s : ByteArray) (n : Int) (l : List RT) (v : Value) (xs : List Value) (bs : List Nat) (hown : w.ownsRow 0 31 4 v l.length xs) (hr : RowB w l xs bs) :
      RepB w (.mk k s n l) [.int .i64 k, .string s, .int .i64 n, v] (v.ownBlock.toList ++ bs)
/-- cells are a row of replies -/
inductive RowB (w : World) : List RT → List Value → List Nat → Prop
  | nil : RowB w [] [] []
  | cons (t : RT) (ts : List RT) (cs xs : List Value) (bs bs' : List Nat) (h : RepB w t cs bs) (hr : RowB w ts xs bs') : RowB w (t :: ts) (cs ++ xs) (bs ++ bs')
end

theorem RepB.four {w : World} {t : RT} {cs : List Value} {bs : List Nat} (h : RepB w t cs bs) : ∃ c0 c1 c2 c3, cs = [c0, c1, c2, c3] ∧ ∀ u ∈ cs, u.oneCell' = true := by
  cases h with
  | mk k s n l v xs bs hown hr =>
    refine ⟨_, _, _, _, rfl, ?_⟩
    intro u hu
    simp only [List.mem_cons, List.mem_nil_iff, or_false] at hu
    rcases hu with rfl | rfl | rfl | rfl
    · rfl
    · rfl
    · rfl
    · rcases hown.2 with ⟨rfl, _⟩ | ⟨g, cap, cur, rfl, _⟩ <;> rfl

theorem ownsRowR_keep {w w' : World} {b : Nat} {e : TypeId} {z n : Nat} {v : Value} {xs : List Value} (h : w.ownsRow b e z v n xs) (hb : ∀ g, v.ownBlock = some g → w'.heap[g]? = w.heap[g]?) : w'.ownsRow b e z v n xs := by
  obtain ⟨hl, h0 | ⟨g, cap, cur, hv, hg, hh, r⟩⟩ := h
  · exact ⟨hl, .inl h0⟩
  · exact ⟨hl, .inr ⟨g, cap, cur, hv, hg, by rw [hb g (by rw [hv]; rfl)]; exact hh, r⟩⟩

mutual
theorem RepB.keep {w w' : World} : ∀ {t : RT} {cs : List Value} {bs : List Nat}, RepB w t cs bs → (∀ g ∈ bs, w'.heap[g]? = w.heap[g]?) → RepB w' t cs bs
  | _, _, _, .mk k s n l v xs bs hown hr, hb => .mk k s n l v xs bs (ownsRowR_keep hown fun g hg => hb g (by simp [hg])) (RowB.keep hr fun g hg => hb g (by simp [hg]))
theorem RowB.keep {w w' : World} : ∀ {ts : List RT} {xs : List Value} {bs : List Nat}, RowB w ts xs bs → (∀ g ∈ bs, w'.heap[g]? = w.heap[g]?) → RowB w' ts xs bs
  | _, _, _, .nil, _ => .nil
  | _, _, _, .cons t ts cs xs bs bs' h hr, hb => .cons t ts cs xs bs bs' (RepB.keep h fun g hg => hb g (by simp [hg])) (RowB.keep hr fun g hg => hb g (by simp [hg]))
end

theorem ownsRow_lt {w : World} {b : Nat} {e : TypeId} {z n : Nat} {v : Value} {xs : List Value} (h : w.ownsRow b e z v n xs) {g : Nat} (hg : v.ownBlock = some g) : g < w.heap.size := by
  obtain ⟨hl, ⟨rfl, _⟩ | ⟨g', cap, cur, rfl, _, hh, _⟩⟩ := h
  · cases hg
  · cases hg
    exact (Array.getElem?_eq_some_iff.1 hh).1

mutual
theorem RepB.lt {w : World} : ∀ {t : RT} {cs : List Value} {bs : List Nat}, RepB w t cs bs → ∀ g ∈ bs, g < w.heap.size
  | _, _, _, .mk k s n l v xs bs hown hr, g, hg => by
    rcases List.mem_append.1 hg with hg | hg
    · exact ownsRow_lt hown (by simpa using hg)
    · exact RowB.lt hr g hg
theorem RowB.lt {w : World} : ∀ {ts : List RT} {xs : List Value} {bs : List Nat}, RowB w ts xs bs → ∀ g ∈ bs, g < w.heap.size
  | _, _, _, .nil, g, hg => by cases hg
  | _, _, _, .cons t ts cs xs bs bs' h hr, g, hg => by
    rcases List.mem_append.1 hg with hg | hg
    · exact RepB.lt h g hg
    · exact RowB.lt hr g hg
end

theorem RowB.snoc {w : World} {t : RT} {cs : List Value} {bs' : List Nat} (h : RepB w t cs bs') : ∀ {ts : List RT} {xs : List Value} {bs : List Nat}, RowB w ts xs bs → RowB w (ts ++ [t]) (xs ++ cs) (bs ++ bs')
  | _, _, _, .nil => by
    have := RowB.cons t [] cs [] bs' [] h .nil
    simpa using this
  | _, _, _, .cons t0 ts cs0 xs bs0 bs1 h0 hr => by
    have := RowB.cons t0 _ cs0 _ bs0 _ h0 (RowB.snoc h hr)
    simpa using this

theorem RowB.at {w : World} : ∀ {ts : List RT} {xs : List Value} {bs : List Nat}, RowB w ts xs bs → ∀ (i : Nat) (hi : i < ts.length),
    ∃ c0 c1 c2 c3 bs', xs[i * 4]? = some c0 ∧ xs[i * 4 + 1]? = some c1 ∧ xs[i * 4 + 2]? = some c2 ∧ xs[i * 4 + 3]? = some c3 ∧ RepB w (ts[i]'hi) [c0, c1, c2, c3] bs' ∧ ∀ g ∈ bs', g ∈ bs
  | _, _, _, .nil, i, hi => by simp at hi
  | _, _, _, .cons t ts cs xs bs bs' h hr, i, hi => by
    obtain ⟨c0, c1, c2, c3, rfl, _⟩ := h.four
    cases i with
    | zero => exact ⟨c0, c1, c2, c3, bs, rfl, rfl, rfl, rfl, h, fun g hg => by simp [hg]⟩
    | succ i =>
      obtain ⟨d0, d1, d2, d3, bs1, e0, e1, e2, e3, h1, h2⟩ := RowB.at hr i (by simpa using hi)
      refine ⟨d0, d1, d2, d3, bs1, ?_, ?_, ?_, ?_, h1, fun g hg => by simp [h2 g hg]⟩ <;>
        (rw [show (i + 1) * 4 = i * 4 + 4 by omega]; simpa [Nat.add_right_comm] using (by assumption))

/-- a reply that can be read -/
def RepX (w : World) (t : RT) (cs : List Value) : Prop := ∃ bs, RepB w t cs bs
theorem RepX.keep {w w' : World} {t : RT} {cs : List Value} (h : RepX w t cs) (hb : Below w.heap.size w w') : RepX w' t cs := by
  obtain ⟨bs, h⟩ := h
  exact ⟨bs, h.keep fun g hg => hb.block g (h.lt g hg)⟩
theorem RepX.one {w : World} {t : RT} {cs : List Value} (h : RepX w t cs) : ∀ u ∈ cs, u.oneCell' = true := by
  obtain ⟨bs, h⟩ := h
  obtain ⟨_, _, _, _, _, h⟩ := h.four
  exact h
/-- a reply, opened -/
theorem RepX.open {w : World} {k : Int} {s : ByteArray} {n : Int} {l : List RT} {cs : List Value} (h : RepX w (.mk k s n l) cs) :
    ∃ (a : Option Addr) (cap : Nat), cs = [.int .i64 k, .string s, .int .i64 n, .slice a l.length cap] ∧ (l.length = 0 ∨ ∃ b, a = some ⟨b, 0, none⟩ ∧ b < w.heap.size ∧
      ∀ i (hi : i < l.length), ∃ c0 c1 c2 c3, w.cell? ⟨b, i * 4, none⟩ = some c0 ∧ w.cell? ⟨b, i * 4 + 1, none⟩ = some c1 ∧ w.cell? ⟨b, i * 4 + 2, none⟩ = some c2 ∧ w.cell? ⟨b, i * 4 + 3, none⟩ = some c3 ∧ RepX w (l[i]'hi) [c0, c1, c2, c3]) := by
  obtain ⟨bs, h⟩ := h
  cases h with
  | mk k s n l v xs bs hown hr =>
    rcases hown.2 with ⟨rfl, h0⟩ | ⟨g, cap, cur, rfl, _, hh, hle, hm, hc, ht⟩
    · exact ⟨none, 0, by rw [h0], .inl h0⟩
    · refine ⟨_, _, rfl, .inr ⟨g, rfl, (Array.getElem?_eq_some_iff.1 hh).1, fun i hi => ?_⟩⟩
      obtain ⟨c0, c1, c2, c3, bs', e0, e1, e2, e3, h1, _⟩ := hr.at i hi
      have key : ∀ j u, xs[j]? = some u → w.cell? ⟨g, j, none⟩ = some u := by
        intro j u hj
        rw [← ht] at hj
        have hlt := (List.getElem?_eq_some_iff.1 hj).1
        rw [List.length_take] at hlt
        rw [List.getElem?_take_of_lt (by omega)] at hj
        unfold World.cell?
        rw [hh]
        simpa using hj
      exact ⟨c0, c1, c2, c3, key _ _ e0, key _ _ e1, key _ _ e2, key _ _ e3, bs', h1⟩

/-- a row of replies in blocks of one's own -/
def OwnL (w : World) (lo : Nat) (v : Value) (ts : List RT) : Prop :=
  ∃ xs bs, w.ownsRow 0 31 4 v ts.length xs ∧ RowB w ts xs bs ∧ (v.ownBlock.toList ++ bs).Nodup ∧ ∀ g ∈ v.ownBlock.toList ++ bs, lo ≤ g
/-- a reply in blocks of one's own -/
def OwnT (w : World) (lo : Nat) (t : RT) (cs : List Value) : Prop := ∃ bs, RepB w t cs bs ∧ bs.Nodup ∧ ∀ g ∈ bs, lo ≤ g

theorem OwnL.nil (w : World) (lo : Nat) : OwnL w lo (.slice none 0 0) [] := ⟨[], [], ⟨rfl, .inl ⟨rfl, rfl⟩⟩, .nil, by simp [Value.ownBlock], by simp [Value.ownBlock]⟩
theorem OwnL.rep {w : World} {lo : Nat} {v : Value} {ts : List RT} (h : OwnL w lo v ts) (k : Int) (s : ByteArray) (n : Int) : OwnT w lo (.mk k s n ts) [.int .i64 k, .string s, .int .i64 n, v] := by
  obtain ⟨xs, bs, h1, h2, h3, h4⟩ := h
  exact ⟨_, .mk k s n ts v xs bs h1 h2, h3, h4⟩
theorem OwnT.list {w : World} {lo : Nat} {k : Int} {s : ByteArray} {n : Int} {l : List RT} {cs : List Value} (h : OwnT w lo (.mk k s n l) cs) : ∃ v, cs = [.int .i64 k, .string s, .int .i64 n, v] ∧ OwnL w lo v l := by
  obtain ⟨bs, h1, h2, h3⟩ := h
  cases h1 with
  | mk k s n l v xs bs hown hr => exact ⟨v, rfl, xs, bs, hown, hr, h2, h3⟩
theorem OwnT.x {w : World} {lo : Nat} {t : RT} {cs : List Value} (h : OwnT w lo t cs) : RepX w t cs := ⟨h.choose, h.choose_spec.1⟩
theorem OwnT.below {w w' : World} {lo : Nat} {t : RT} {cs : List Value} (h : OwnT w lo t cs) (hb : Below w.heap.size w w') : OwnT w' lo t cs := by
  obtain ⟨bs, h1, h2, h3⟩ := h
  exact ⟨bs, h1.keep fun g hg => hb.block g (h1.lt g hg), h2, h3⟩
theorem OwnT.lo {w : World} {lo lo' : Nat} {t : RT} {cs : List Value} (h : OwnT w lo t cs) (hl : lo' ≤ lo) : OwnT w lo' t cs := by
  obtain ⟨bs, h1, h2, h3⟩ := h
  exact ⟨bs, h1, h2, fun g hg => Nat.le_trans hl (h3 g hg)⟩
theorem OwnL.below {w w' : World} {lo : Nat} {v : Value} {ts : List RT} (h : OwnL w lo v ts) (hb : Below w.heap.size w w') : OwnL w' lo v ts := by
  obtain ⟨xs, bs, h1, h2, h3, h4⟩ := h
  exact ⟨xs, bs, ownsRowR_keep h1 fun g hg => hb.block g (ownsRow_lt h1 hg), h2.keep fun g hg => hb.block g (h2.lt g hg), h3, h4⟩
theorem OwnT.keepLo {w w' : World} {lo : Nat} {t : RT} {cs : List Value} (h : OwnT w lo t cs) (hb : ∀ g, lo ≤ g → g < w.heap.size → w'.heap[g]? = w.heap[g]?) : OwnT w' lo t cs := by
  obtain ⟨bs, h1, h2, h3⟩ := h
  exact ⟨bs, h1.keep fun g hg => hb g (h3 g hg) (h1.lt g hg), h2, h3⟩
theorem OwnL.keepLo {w w' : World} {lo : Nat} {v : Value} {ts : List RT} (h : OwnL w lo v ts) (hb : ∀ g, lo ≤ g → g < w.heap.size → w'.heap[g]? = w.heap[g]?) : OwnL w' lo v ts := by
  obtain ⟨xs, bs, h1, h2, h3, h4⟩ := h
  exact ⟨xs, bs, ownsRowR_keep h1 fun g hg => hb g (h4 g (by simp [hg])) (ownsRow_lt h1 hg), h2.keep fun g hg => hb g (h4 g (by simp [hg])) (h2.lt g hg), h3, h4⟩
theorem OwnL.one {w : World} {lo : Nat} {v : Value} {ts : List RT} (h : OwnL w lo v ts) : v.oneCell' = true ∧ v.cells = #[v] := by
  obtain ⟨xs, bs, h1, _⟩ := h
  rcases h1.2 with ⟨rfl, h0⟩ | ⟨g, cap, cur, rfl, _⟩ <;> exact ⟨rfl, rfl⟩
theorem OwnT.one {w : World} {lo : Nat} {t : RT} {cs : List Value} (h : OwnT w lo t cs) : ∀ u ∈ cs, u.oneCell' = true := by
  obtain ⟨bs, h1, _⟩ := h
  obtain ⟨_, _, _, _, _, h⟩ := h1.four
  exact h
theorem cell_of {w : World} {p i : Nat} {cs : Array Value} {T : TypeId} {z : Nat × Nat} {v : Value} (h : w.heap[p]? = some (.cells cs T z)) (hi : cs[i]? = some v) : w.cell? ⟨p, i, none⟩ = some v := by
  unfold World.cell?
  rw [h]
  exact hi
theorem heap_set {w : World} {p : Nat} {cs : Array Value} {T : TypeId} {z : Nat × Nat} (h : w.heap[p]? = some (.cells cs T z)) (i : Nat) (u : Value) : (w.setCell ⟨p, i, none⟩ u).heap[p]? = some (.cells (cs.setIfInBounds i u) T z) := by
  simp [World.setCell, Array.getElem?_modify, h]
theorem grown_set (w : World) (p i : Nat) (u : Value) : w.grownBy (w.setCell ⟨p, i, none⟩ u) (some p) :=
  ⟨rfl, rfl, rfl, by simp [World.setCell], fun k _ hk => Below.heap_setCell w _ u k (fun e => hk (by rw [e]))⟩
theorem frozen_of {w : World} {p i : Nat} {cs : Array Value} {T : TypeId} (h : w.heap[p]? = some (.cells cs T (0, 0))) : w.frozen? ⟨p, i, none⟩ = false := by
  simp [World.frozen?, h]
theorem undrew {B : Nat} {w w' : World} (h : Below B w.drew w') : Below B w w' := ⟨h.os, h.tape, h.output, h.size, h.block⟩
/-- the results of a function whose first result is a reply in memory -/
theorem res_cell_tmp {fn : Func} {p u : Tmp} (h : fn.results = #[.cell p 31, .tmp u]) (tmps : Array Value) (w : World) (g : Nat) (T : TypeId) (c0 c1 c2 c3 : Value) (fr : Nat × Nat)
    (hp : tmps.getD p undef = .pointer (some ⟨g, 0, none⟩)) (hg : w.heap[g]? = some (.cells #[c0, c1, c2, c3] T fr)) :
    (results fn tmps).run Tryd.prog w = .ok (.tuple #[.agg #[c0, c1, c2, c3], tmps.getD u undef]) w := by
  obtain ⟨i0, hi, hz0, hz1, hz2⟩ := info_parts Tryd.info_rep
  rw [results_cell_tmp h, hp]
  simp only [asAddr]
  simp [run_loadVar_row w g T 31 _ fr _ hg Tryd.underlying31 rfl (by rw [hi]; simp [hz1])]
/-- the result of a function whose result is a reply in memory -/
theorem res_cell {fn : Func} {p : Tmp} (h : fn.results = #[.cell p 31]) (tmps : Array Value) (w : World) (g : Nat) (T : TypeId) (c0 c1 c2 c3 : Value) (fr : Nat × Nat)
    (hp : tmps.getD p undef = .pointer (some ⟨g, 0, none⟩)) (hg : w.heap[g]? = some (.cells #[c0, c1, c2, c3] T fr)) :
    (results fn tmps).run Tryd.prog w = .ok (.agg #[c0, c1, c2, c3]) w := by
  obtain ⟨i0, hi, hz0, hz1, hz2⟩ := info_parts Tryd.info_rep
  exact results_cell_row h tmps w g T _ fr _ hp hg Tryd.underlying31 rfl (by rw [hi]; simp [hz1])
theorem OwnL.val {w : World} {lo : Nat} {v : Value} {ts : List RT} (h : OwnL w lo v ts) : ∃ a cap, v = .slice a ts.length cap := by
  obtain ⟨xs, bs, h1, _⟩ := h
  rcases h1.2 with ⟨rfl, h0⟩ | ⟨g, cap, cur, rfl, _⟩
  · exact ⟨none, 0, by rw [h0]⟩
  · exact ⟨_, _, rfl⟩

/-- a store of a whole reply into a block of four cells -/
theorem wp_store4 {ops : Array Oper} {rest : List Oper} {op : Oper} {a : Act} {Q : Exit → Act → World → Prop} (w : World) (hgd : op.guard = none) (x y : Operand) (ho : op.op = .store 31 x y)
    (p : Nat) (T : TypeId) (cs : Array Value) (c0 c1 c2 c3 : Value) (h : w.heap[p]? = some (.cells cs T (0, 0))) (hcs : cs.size = 4) (hx : a.eval x = .pointer (some ⟨p, 0, none⟩)) (hy : a.eval y = .agg #[c0, c1, c2, c3]) (h1 : ∀ u ∈ [c0, c1, c2, c3], u.oneCell' = true)
    (hK : ∀ w', w'.heap[p]? = some (.cells #[c0, c1, c2, c3] T (0, 0)) → w'.heap.size = w.heap.size → w.grownBy w' (some p) → wpList Tryd.prog ops Q rest (a.put op.dst undef) w') : wpList Tryd.prog ops Q (op :: rest) a w := by
  refine wpList_plain hgd fun K hK' => ?_
  obtain ⟨i0, hi0, hz0, hz1, hz2⟩ := info_parts Tryd.info_rep
  have hst := run_storeCells_at Tryd.prog p 0 T [c0, c1, c2, c3] 0 _ w h (by simp; omega) h1
  have hrun : (Instr.storeAt 31 (.pointer (some ⟨p, 0, none⟩)) (.agg #[c0, c1, c2, c3])).run Tryd.prog w =
      .ok () (w.setRow p (cs.toList.take 0 ++ [c0, c1, c2, c3] ++ cs.toList.drop (0 + 4)).toArray) := by
    simp only [Nat.add_zero] at hst
    simp [Instr.storeAt, Instr.sureAddr, storeVar, sizeOf, typeInfo, hi0, hz1, Value.cells]
    simpa using hst
  unfold Oper.wp execOp
  simp only [ho, hx, hy, Sem.run_bind, Sem.run_pure, Result.andThen_ok, hrun]
  refine hK' _ _ (hK _ ?_ (by simp [World.setRow]) ⟨rfl, rfl, rfl, by simp [World.setRow], fun k _ hk => setRow_other w p k _ (fun e => hk (by rw [e]))⟩)
  rw [setRow_heap w p _ _ _ _ h]
  congr 2
  apply Array.ext'
  have : cs.toList.drop 4 = [] := List.drop_eq_nil_iff.2 (by simp [hcs])
  simp [this]

/-- 'append(l, x)': one more reply, which was made behind the row -/
theorem run_appR (w : World) (ty : TypeId) (w0 w1 : World) (lo : Nat) (v : Value) (ts : List RT) (h : OwnL w0 lo v ts) (t : RT) (cs : List Value) (ht : OwnT w1 w0.heap.size t cs)
    (hw : w = w1.alloc (.cells cs.toArray 31)) (hb : Below w0.heap.size w0 w1) (hl : ts.length < 1073741824) (hlo : lo ≤ w0.heap.size) :
    ∃ v' w', (Builtin.append_ #[29, 29] ty #[v, .slice (some ⟨w1.heap.size, 0, none⟩) 1 1]).run Tryd.prog w = .ok v' w' ∧ OwnL w' lo v' (ts ++ [t]) ∧ Below lo w1 w' ∧ w.grownBy w' v.ownBlock := by
  obtain ⟨i0, hi, hz0, hz1, hz2⟩ := info_parts Tryd.info_rep
  have hb1 : Below w1.heap.size w1 w := by rw [hw]; exact (Below.refl _ _).alloc (Nat.le_refl _) _
  have hs : w.heap.size = w1.heap.size + 1 := by rw [hw]; simp
  obtain ⟨xs0, bs0, g1, g2, g3, g4⟩ := h
  obtain ⟨bt, t1, t2, t3⟩ := ht
  obtain ⟨c0, c1, c2, c3, rfl, hone⟩ := t1.four
  have k1 := ownsRowR_keep g1 (w' := w) fun g hg => (hb.trans (hb1.mono hb.size)).block g (ownsRow_lt g1 hg)
  have k2 := g2.keep (w' := w) fun g hg => (hb.trans (hb1.mono hb.size)).block g (g2.lt g hg)
  have kt := t1.keep (w' := w) fun g hg => hb1.block g (t1.lt g hg)
  obtain ⟨v', w', hr, r1, r2, _, r4⟩ := run_append_own_at (P := Tryd.prog) w 0 29 ty 31 i0 (.agg #[.int .i64 0, .string ⟨#[]⟩, .int .i64 0, .slice none 0 0]) 4 56 Tryd.underlying29 hi hz0 hz1 hz2 rfl (by decide) v ts.length xs0 k1 ⟨w1.heap.size, 0, none⟩ 1 1 [c0, c1, c2, c3] rfl
    (by
      intro j u hj
      have e : (⟨w1.heap.size, 0, none⟩ : Addr).add j = ⟨w1.heap.size, j, none⟩ := by unfold Addr.add; split <;> simp_all
      rw [e, hw, World.cell?_alloc_mark]
      simpa using hj) hone (by unfold maxLen; omega) (by omega) (Nat.zero_le _)
  have hlt : ∀ g ∈ v.ownBlock.toList ++ bs0, g < w0.heap.size := by
    intro g hg
    rcases List.mem_append.1 hg with hg | hg
    · exact ownsRow_lt g1 (by simpa using hg)
    · exact g2.lt g hg
  have hsz0 : w0.heap.size ≤ w1.heap.size := hb.size
  have far : ∀ g, g ∈ bs0 ++ bt → w'.heap[g]? = w.heap[g]? := by
    intro g hg
    have hgl : g < w.heap.size := by
      rcases List.mem_append.1 hg with hg | hg
      · exact k2.lt g hg
      · exact kt.lt g hg
    refine r2.block g hgl fun e => ?_
    have hv : g ∈ v.ownBlock.toList := by rw [← e]; simp
    rcases List.mem_append.1 hg with hg | hg
    · exact (List.nodup_append.1 g3).2.2 g hv g hg rfl
    · have := t3 g hg
      have := hlt g (by simp [hv])
      omega
  refine ⟨v', w', hr, ⟨xs0 ++ [c0, c1, c2, c3], bs0 ++ bt, by rw [List.length_append]; exact r1, (RowB.snoc kt k2).keep fun g hg => far g hg, ?_, ?_⟩, ?_, r2⟩
  · have hn : (bs0 ++ bt).Nodup := List.nodup_append.2 ⟨(List.nodup_append.1 g3).2.1, t2, fun a ha b hb' e => by
      have := hlt a (by simp [ha])
      have := t3 b hb'
      omega⟩
    refine List.nodup_append.2 ⟨by cases v'.ownBlock <;> simp, hn, fun a ha b hb' e => ?_⟩
    subst e
    rcases r4 with e | e
    · rw [e] at ha
      rcases List.mem_append.1 hb' with hb' | hb'
      · exact (List.nodup_append.1 g3).2.2 a ha a hb' rfl
      · have := hlt a (by simp [ha])
        have := t3 a hb'
        omega
    · rw [e] at ha
      simp at ha
      rcases List.mem_append.1 hb' with hb' | hb'
      · have := hlt a (by simp [hb'])
        omega
      · have := t1.lt a hb'
        omega
  · intro g hg
    rcases List.mem_append.1 hg with hg | hg
    · rcases r4 with e | e
      · rw [e] at hg
        exact g4 g (by simp [hg])
      · rw [e] at hg
        simp at hg
        omega
    · rcases List.mem_append.1 hg with hg | hg
      · exact g4 g (by simp [hg])
      · have := t3 g hg
        omega
  · exact (hb1.mono (by omega)).grown r2 (by omega) fun k hk => g4 k (by simp [hk])

theorem wp0_appR {o : Oper} {a : Act} {K : Act → World → Prop} {Q : Exit → Act → World → Prop} (w : World) (x y : Operand)
    (ho : o.op = .call { callee := .builtin .append, args := #[x, y], argTypes := #[29, 29] })
    (w0 w1 : World) (lo : Nat) (v : Value) (ts : List RT) (hx : a.eval x = v) (h : OwnL w0 lo v ts) (t : RT) (cs : List Value) (ht : OwnT w1 w0.heap.size t cs)
    (hy : a.eval y = .slice (some ⟨w1.heap.size, 0, none⟩) 1 1) (hw : w = w1.alloc (.cells cs.toArray 31)) (hb : Below w0.heap.size w0 w1) (hl : ts.length < 1073741824) (hlo : lo ≤ w0.heap.size)
    (hK : ∀ v' w', OwnL w' lo v' (ts ++ [t]) → Below lo w1 w' → w.grownBy w' v.ownBlock → K (a.put o.dst v') w') : o.wp Tryd.prog a w K Q := by
  obtain ⟨v', w', hr, h2, h3, h4⟩ := run_appR w o.type w0 w1 lo v ts h t cs ht hw hb hl hlo
  unfold Oper.wp execOp
  simp only [ho, resolve, invoke, builtin, Sem.run_bind, Sem.run_pure, Result.andThen_ok, List.map_toArray, List.map_cons, List.map_nil, hx, hy, hr]
  exact hK v' w' h2 h3 h4
/-- in a plain region -/
theorem wp_appR {ops : Array Oper} {rest : List Oper} {o : Oper} {a : Act} {Q : Exit → Act → World → Prop} (w : World) (hgd : o.guard = none) (x y : Operand)
    (ho : o.op = .call { callee := .builtin .append, args := #[x, y], argTypes := #[29, 29] })
    (w0 w1 : World) (lo : Nat) (v : Value) (ts : List RT) (hx : a.eval x = v) (h : OwnL w0 lo v ts) (t : RT) (cs : List Value) (ht : OwnT w1 w0.heap.size t cs)
    (hy : a.eval y = .slice (some ⟨w1.heap.size, 0, none⟩) 1 1) (hw : w = w1.alloc (.cells cs.toArray 31)) (hb : Below w0.heap.size w0 w1) (hl : ts.length < 1073741824) (hlo : lo ≤ w0.heap.size)
    (hK : ∀ v' w', OwnL w' lo v' (ts ++ [t]) → Below lo w1 w' → wpList Tryd.prog ops Q rest (a.put o.dst v') w') :
    wpList Tryd.prog ops Q (o :: rest) a w :=
  wpList_plain hgd fun _ hK' => wp0_appR w x y ho w0 w1 lo v ts hx h t cs ht hy hw hb hl hlo fun v' w' h2 h3 _ => hK' _ _ (hK v' w' h2 h3)
/-- in a region that draws its order -/
theorem step_appR {ops : Array Oper} {o : Oper} {a : Act} {K : Act → World → Prop} {Q : Exit → Act → World → Prop} {E : Prop} (w : World) (hgd : o.guard = none) (x y : Operand)
    (ho : o.op = .call { callee := .builtin .append, args := #[x, y], argTypes := #[29, 29] })
    (w0 w1 : World) (lo : Nat) (v : Value) (ts : List RT) (hx : a.eval x = v) (h : OwnL w0 lo v ts) (t : RT) (cs : List Value) (ht : OwnT w1 w0.heap.size t cs)
    (hy : a.eval y = .slice (some ⟨w1.heap.size, 0, none⟩) 1 1) (hw : w = w1.alloc (.cells cs.toArray 31)) (hb : Below w0.heap.size w0 w1) (hl : ts.length < 1073741824) (hlo : lo ≤ w0.heap.size)
    (hK : ∀ v' w', OwnL w' lo v' (ts ++ [t]) → Below lo w1 w' → w.grownBy w' v.ownBlock → K (a.put o.dst v') w') :
    if Region.wanted o (yielded ops a.tmps) = true then Oper.wp Tryd.prog o a w K Q else E := by
  have hwd : Region.wanted o (yielded ops a.tmps) = true := by simp [Region.wanted, hgd]
  rw [if_pos hwd]
  exact wp0_appR w x y ho w0 w1 lo v ts hx h t cs ht hy hw hb hl hlo hK
end Mm
end Go.Proofs.YtakldjdohgmeiaaDoor

namespace Go.Proofs.YtakldjdohgmeiaaDoor
open Go.RowKit
set_option maxRecDepth 20000

namespace Mm
/-- the four cells of a reply without a list -/
def leaf (k : Int) (s : ByteArray) (n : Int) : List Value := [.int .i64 k, .string s, .int .i64 n, .slice none 0 0]
theorem leaf_rep (w : World) (k : Int) (s : ByteArray) (n : Int) : RepB w (.mk k s n []) [.int .i64 k, .string s, .int .i64 n, .slice none 0 0] [] :=
  .mk k s n [] (.slice none 0 0) [] [] ⟨rfl, .inl ⟨rfl, rfl⟩⟩ .nil
theorem leaf_own (w : World) (lo : Nat) (k : Int) (s : ByteArray) (n : Int) : OwnT w lo (.mk k s n []) [.int .i64 k, .string s, .int .i64 n, .slice none 0 0] :=
  ⟨[], leaf_rep w k s n, List.nodup_nil, fun g hg => by cases hg⟩
theorem leaf_x (w : World) (k : Int) (s : ByteArray) (n : Int) : RepX w (.mk k s n []) [.int .i64 k, .string s, .int .i64 n, .slice none 0 0] := ⟨[], leaf_rep w k s n⟩
theorem leaf_one {k : Int} {s : ByteArray} {n : Int} : ∀ u ∈ [Value.int .i64 k, Value.string s, Value.int .i64 n, Value.slice none 0 0], u.oneCell' = true := by
  intro u hu
  simp only [List.mem_cons, List.mem_nil_iff, or_false] at hu
  rcases hu with rfl | rfl | rfl | rfl <;> rfl
/-- a block of one's own that was stored into -/
theorem newcell4 {w1 w2 : World} {o : Array Value} {T : TypeId} (hg : (w1.alloc (.cells o T)).grownBy w2 (some w1.heap.size)) : Below w1.heap.size w1 w2 :=
  ((Below.refl w1.heap.size w1).alloc (Nat.le_refl _) (.cells o T)).grown hg (by simp) (fun k hk => by injection hk with hk; omega)
end Mm
theorem mk_simple (s : ByteArray) (w : World) : Calls Tryd.prog 26 #[.string s] w fun e w' => e = .returned (.agg #[.int .i64 1, .string s, .int .i64 0, .slice none 0 0]) ∧ Below w.heap.size w w' := by
  go_enter Tryd.func26, Tryd.ntmps26
  go_wp2_with (refine Mm.wp_store4 _ rfl _ _ rfl w.heap.size _ _ _ _ _ _ (heap_alloc_new w _) rfl rfl rfl Mm.leaf_one ?_; intro w2 hw2 _ hg2; have HW2 := Pl.hid hw2; have HB2 := Pl.hid (Mm.newcell4 hg2); clear hw2 hg2)
  refine bodyPost_ret (Mm.res_cell rfl _ w2 w.heap.size _ _ _ _ _ _ rfl HW2.out) rfl ?_
  exact ⟨rfl, HB2.out⟩
theorem mk_int (n : Int) (w : World) : Calls Tryd.prog 29 #[.int .i64 n] w fun e w' => e = .returned (.agg #[.int .i64 3, .string ⟨#[]⟩, .int .i64 n, .slice none 0 0]) ∧ Below w.heap.size w w' := by
  go_enter Tryd.func29, Tryd.ntmps29
  go_wp2_with (refine Mm.wp_store4 _ rfl _ _ rfl w.heap.size _ _ _ _ _ _ (heap_alloc_new w _) rfl rfl rfl Mm.leaf_one ?_; intro w2 hw2 _ hg2; have HW2 := Pl.hid hw2; have HB2 := Pl.hid (Mm.newcell4 hg2); clear hw2 hg2)
  refine bodyPost_ret (Mm.res_cell rfl _ w2 w.heap.size _ _ _ _ _ _ rfl HW2.out) rfl ?_
  exact ⟨rfl, HB2.out⟩
theorem mk_bulk (s : ByteArray) (w : World) : Calls Tryd.prog 31 #[.string s] w fun e w' => e = .returned (.agg #[.int .i64 4, .string s, .int .i64 0, .slice none 0 0]) ∧ Below w.heap.size w w' := by
  go_enter Tryd.func31, Tryd.ntmps31
  go_wp2_with (refine Mm.wp_store4 _ rfl _ _ rfl w.heap.size _ _ _ _ _ _ (heap_alloc_new w _) rfl rfl rfl Mm.leaf_one ?_; intro w2 hw2 _ hg2; have HW2 := Pl.hid hw2; have HB2 := Pl.hid (Mm.newcell4 hg2); clear hw2 hg2)
  refine bodyPost_ret (Mm.res_cell rfl _ w2 w.heap.size _ _ _ _ _ _ rfl HW2.out) rfl ?_
  exact ⟨rfl, HB2.out⟩
theorem mk_null (w : World) : Calls Tryd.prog 33 #[] w fun e w' => e = .returned (.agg #[.int .i64 5, .string ⟨#[]⟩, .int .i64 0, .slice none 0 0]) ∧ Below w.heap.size w w' := by
  go_enter Tryd.func33, Tryd.ntmps33
  go_wp2_with (refine Mm.wp_store4 _ rfl _ _ rfl w.heap.size _ _ _ _ _ _ (heap_alloc_new w _) rfl rfl rfl Mm.leaf_one ?_; intro w2 hw2 _ hg2; have HW2 := Pl.hid hw2; have HB2 := Pl.hid (Mm.newcell4 hg2); clear hw2 hg2)
  refine bodyPost_ret (Mm.res_cell rfl _ w2 w.heap.size _ _ _ _ _ _ rfl HW2.out) rfl ?_
  exact ⟨rfl, HB2.out⟩
theorem mk_rsimple (s : ByteArray) (w : World) : Calls Tryd.prog 27 #[.string s] w fun e w' => e = .returned (.agg #[.int .i64 1, .string s, .int .i64 0, .slice none 0 0]) ∧ Below w.heap.size w w' := by
  go_enter Tryd.func27, Tryd.ntmps27
  go_wp2_with (refine Mm.wp_store4 _ rfl _ _ rfl w.heap.size _ _ _ _ _ _ (heap_alloc_new w _) rfl rfl rfl Mm.leaf_one ?_; intro w2 hw2 _ hg2; have HW2 := Pl.hid hw2; have HB2 := Pl.hid (Mm.newcell4 hg2); clear hw2 hg2)
  refine bodyPost_ret (Mm.res_cell rfl _ w2 w.heap.size _ _ _ _ _ _ rfl HW2.out) rfl ?_
  exact ⟨rfl, HB2.out⟩
theorem mk_rint (n : Int) (w : World) : Calls Tryd.prog 30 #[.int .i64 n] w fun e w' => e = .returned (.agg #[.int .i64 3, .string ⟨#[]⟩, .int .i64 n, .slice none 0 0]) ∧ Below w.heap.size w w' := by
  go_enter Tryd.func30, Tryd.ntmps30
  go_wp2_with (refine Mm.wp_store4 _ rfl _ _ rfl w.heap.size _ _ _ _ _ _ (heap_alloc_new w _) rfl rfl rfl Mm.leaf_one ?_; intro w2 hw2 _ hg2; have HW2 := Pl.hid hw2; have HB2 := Pl.hid (Mm.newcell4 hg2); clear hw2 hg2)
  refine bodyPost_ret (Mm.res_cell rfl _ w2 w.heap.size _ _ _ _ _ _ rfl HW2.out) rfl ?_
  exact ⟨rfl, HB2.out⟩
theorem mk_rbulk (s : ByteArray) (w : World) : Calls Tryd.prog 32 #[.string s] w fun e w' => e = .returned (.agg #[.int .i64 4, .string s, .int .i64 0, .slice none 0 0]) ∧ Below w.heap.size w w' := by
  go_enter Tryd.func32, Tryd.ntmps32
  go_wp2_with (refine Mm.wp_store4 _ rfl _ _ rfl w.heap.size _ _ _ _ _ _ (heap_alloc_new w _) rfl rfl rfl Mm.leaf_one ?_; intro w2 hw2 _ hg2; have HW2 := Pl.hid hw2; have HB2 := Pl.hid (Mm.newcell4 hg2); clear hw2 hg2)
  refine bodyPost_ret (Mm.res_cell rfl _ w2 w.heap.size _ _ _ _ _ _ rfl HW2.out) rfl ?_
  exact ⟨rfl, HB2.out⟩
theorem mk_rnull (w : World) : Calls Tryd.prog 34 #[] w fun e w' => e = .returned (.agg #[.int .i64 5, .string ⟨#[]⟩, .int .i64 0, .slice none 0 0]) ∧ Below w.heap.size w w' := by
  go_enter Tryd.func34, Tryd.ntmps34
  go_wp2_with (refine Mm.wp_store4 _ rfl _ _ rfl w.heap.size _ _ _ _ _ _ (heap_alloc_new w _) rfl rfl rfl Mm.leaf_one ?_; intro w2 hw2 _ hg2; have HW2 := Pl.hid hw2; have HB2 := Pl.hid (Mm.newcell4 hg2); clear hw2 hg2)
  refine bodyPost_ret (Mm.res_cell rfl _ w2 w.heap.size _ _ _ _ _ _ rfl HW2.out) rfl ?_
  exact ⟨rfl, HB2.out⟩
end Go.Proofs.YtakldjdohgmeiaaDoor

namespace Go.Proofs.YtakldjdohgmeiaaDoor
open Go.RowKit
set_option maxRecDepth 20000

namespace Mm
open Pl
/-- a row of n elements in a block from lo on, whatever it holds -/
def ShR (w : World) (lo : Nat) (e : TypeId) (z : Nat) (v : Value) (n : Nat) : Prop :=
  (v = .slice none 0 0 ∧ n = 0) ∨ ∃ g cap cur, v = .slice (some ⟨g, 0, none⟩) n cap ∧ lo ≤ g ∧ w.heap[g]? = some (.cells cur e (0, 0)) ∧ n ≤ cap ∧ cap ≤ maxLen ∧ cur.size = cap * z
theorem ShR.of_own {w : World} {lo : Nat} {e : TypeId} {z : Nat} {v : Value} {n : Nat} {xs : List Value} (h : w.ownsRow lo e z v n xs) : ShR w lo e z v n := by
  rcases h.2 with h0 | ⟨g, cap, cur, h1, h2, h3, h4, h5, h6, _⟩
  · exact .inl h0
  · exact .inr ⟨g, cap, cur, h1, h2, h3, h4, h5, h6⟩
theorem ShR.own {w : World} {lo : Nat} {e : TypeId} {z : Nat} {v : Value} {n : Nat} (h : ShR w lo e z v n) : ∃ xs, w.ownsRow lo e z v n xs := by
  rcases h with ⟨h0, rfl⟩ | ⟨g, cap, cur, h1, h2, h3, h4, h5, h6⟩
  · exact ⟨[], by simp, .inl ⟨h0, rfl⟩⟩
  · refine ⟨cur.toList.take (n * z), ?_, .inr ⟨g, cap, cur, h1, h2, h3, h4, h5, h6, rfl⟩⟩
    rw [List.length_take, Array.length_toList, h6]
    exact Nat.min_eq_left (Nat.mul_le_mul_right _ h4)
/-- blocks of rows keep their size -/
def Shp (e : TypeId) (w w' : World) : Prop := ∀ (g : Nat) (cur : Array Value), w.heap[g]? = some (Obj.cells cur e (0, 0)) → ∃ cur' : Array Value, w'.heap[g]? = some (Obj.cells cur' e (0, 0)) ∧ cur'.size = cur.size
theorem Shp.refl (e : TypeId) (w : World) : Shp e w w := fun _ cur h => ⟨cur, h, rfl⟩
theorem Shp.trans {e : TypeId} {a b c : World} (h : Shp e a b) (k : Shp e b c) : Shp e a c := fun g cur hg => by
  obtain ⟨c1, h1, s1⟩ := h g cur hg
  obtain ⟨c2, h2, s2⟩ := k g c1 h1
  exact ⟨c2, h2, s2.trans s1⟩
theorem Shp.below {e : TypeId} {w w' : World} (h : Below w.heap.size w w') : Shp e w w' := fun g cur hg => ⟨cur, (h.block g (Array.getElem?_eq_some_iff.1 hg).1).trans hg, rfl⟩
theorem Shp.store {e : TypeId} {w w' : World} {p : Nat} {cs cs' : Array Value} {T : TypeId} (h : w.heap[p]? = some (.cells cs T (0, 0))) (h' : w'.heap[p]? = some (.cells cs' T (0, 0))) (hs : cs'.size = cs.size) (hg : w.grownBy w' (some p)) : Shp e w w' := fun g cur hcur => by
  by_cases hp : g = p
  · subst hp
    rw [h] at hcur
    injection hcur with hcur
    injection hcur with e1 e2 _
    subst e1
    subst e2
    exact ⟨cs', h', hs⟩
  · exact ⟨cur, (hg.block g (Array.getElem?_eq_some_iff.1 hcur).1 (fun e => hp (by injection e))).trans hcur, rfl⟩
theorem ShR.shp {w w' : World} {lo : Nat} {e : TypeId} {z : Nat} {v : Value} {n : Nat} (h : ShR w lo e z v n) (hs : Shp e w w') : ShR w' lo e z v n := by
  rcases h with h0 | ⟨g, cap, cur, h1, h2, h3, h4, h5, h6⟩
  · exact .inl h0
  · obtain ⟨cur', a1, a2⟩ := hs g cur h3
    exact .inr ⟨g, cap, cur', h1, h2, a1, h4, h5, a2.trans h6⟩
theorem ShR.lt {w : World} {lo : Nat} {e : TypeId} {z : Nat} {v : Value} {n : Nat} (h : ShR w lo e z v n) {g : Nat} (hg : v.ownBlock = some g) : lo ≤ g ∧ g < w.heap.size := by
  rcases h with ⟨rfl, _⟩ | ⟨g', cap, cur, rfl, h2, h3, _⟩
  · cases hg
  · injection hg with hg
    subst hg
    exact ⟨h2, (Array.getElem?_eq_some_iff.1 h3).1⟩
/-- a step that writes into one row, or into what is new -/
theorem grown_step {w a b : World} {row : Option Nat} {k : Option Nat} (h : w.grownBy a row) (hk : a.grownBy b k) (hr : ∀ g, k = some g → some g = row ∨ w.heap.size ≤ g) : w.grownBy b row :=
  ⟨hk.os.trans h.os, hk.tape.trans h.tape, hk.output.trans h.output, Nat.le_trans h.size hk.size, fun g hg hne => (hk.block g (Nat.lt_of_lt_of_le hg h.size) (fun e => by
    rcases hr g e.symm with h1 | h1
    · exact hne h1
    · omega)).trans (h.block g hg hne)⟩
theorem grown_below {w a : World} {row : Option Nat} (h : Below w.heap.size w a) : w.grownBy a row := ⟨h.os, h.tape, h.output, h.size, fun g hg _ => h.block g hg⟩

theorem run_append_sh (w : World) (lo : Nat) (t ty e : TypeId) (i : TypeInfo) (z : Value) (size bytes : Nat) (ht : Tryd.prog.underlying t = some (.slice e)) (hi : Tryd.prog.info? e = some i) (hz : i.zero = some z)
    (hsize : i.size = size) (hby : i.bytes = bytes) (hzs : z.cells.size = size) (hsz : 0 < size) (v : Value) (n : Nat) (hown : ShR w lo e size v n)
    (a : Addr) (m c : Nat) (news : List Value) (hl : news.length = m * size) (hnews : ∀ j u, news[j]? = some u → w.cell? (a.add j) = some u) (h1 : ∀ u ∈ news, u.oneCell' = true)
    (h63 : n + m ≤ maxLen) (hbytes : (n + m) * bytes ≤ 140737488355328) (hbase : lo ≤ w.heap.size) :
    ∃ v' w', (Builtin.append_ #[t, t] ty #[v, .slice (some a) m c]).run Tryd.prog w = .ok v' w' ∧ ShR w' lo e size v' (n + m) ∧ w.grownBy w' v.ownBlock ∧ (v'.ownBlock = v.ownBlock ∨ v'.ownBlock = some w.heap.size) ∧ Shp e w w' := by
  obtain ⟨xs, hx⟩ := hown.own
  obtain ⟨v1, w1, hr1, o1, g1, _, at1⟩ := run_append_own_at (P := Tryd.prog) w lo t ty e i z size bytes ht hi hz hsize hby hzs hsz v n xs hx a m c news hl hnews h1 h63 hbytes hbase
  refine ⟨v1, w1, hr1, .of_own o1, g1, at1, ?_⟩
  rcases hown with ⟨rfl, rfl⟩ | ⟨g, cap, cur, rfl, hlo, hg, hn, hc, hs⟩
  · exact fun g cur hg => ⟨cur, (g1.block g (Array.getElem?_eq_some_iff.1 hg).1 (fun e => by cases e)).trans hg, rfl⟩
  · by_cases hroom : n + m ≤ cap
    · obtain ⟨w2, hr2, o2, g2⟩ := run_append_own_spare (P := Tryd.prog) w lo t ty e i size ht hi hsize g n cap xs hx a m c news hl hnews h1 hroom
      rw [hr1] at hr2
      injection hr2 with hv hw
      subst hw
      rcases o2.2 with ⟨h0, _⟩ | ⟨g', cap', cur', hv', _, hg', _, _, hs', _⟩
      · cases h0
      · injection hv' with a1 a2 a3
        injection a1 with a1
        injection a1 with a1
        subst a1
        subst a3
        exact Shp.store hg hg' (hs'.trans hs.symm) g2
    · have holds : ∀ j u, xs[j]? = some u → w.cell? ((⟨g, 0, none⟩ : Addr).add j) = some u := hx.cells (g := g) rfl
      subst hsize
      subst hby
      have hsmall : n + m ≤ 9223372036854775807 := by simp only [maxLen] at h63; omega
      have hr := run_append_grow (P := Tryd.prog) w t ty e i z ht hi hz ⟨g, 0, none⟩ n cap xs hx.1 holds a m c news hl hnews (by omega) (by omega) (growslice_fits (by omega) hbytes)
      rw [hr1] at hr
      injection hr with hv hw
      rw [hw]
      exact Shp.below (((Below.refl _ _).drew).alloc (Nat.le_refl _) _)

/-- 'append(g, c)', c a byte -/
theorem wp_app1Sh {ops : Array Oper} {rest : List Oper} {o : Oper} {a : Act} {Q : Exit → Act → World → Prop} (w : World) (hgd : o.guard = none) (x y : Operand)
    (ho : o.op = .call { callee := .builtin .append, args := #[x, y], argTypes := #[24, 24] })
    (lo : Nat) (v : Value) (n : Nat) (c : Int) (hx : a.eval x = v) (hy : a.eval y = .slice (some ⟨w.heap.size, 0, none⟩) 1 1) (h : ShR w lo 5 1 v n) (hl : n < 140737488355328) (hlo : lo ≤ w.heap.size)
    (hK : ∀ v' w', ShR w' lo 5 1 v' (n + 1) → w.grownBy w' v.ownBlock → (v'.ownBlock = v.ownBlock ∨ ∃ k, v'.ownBlock = some k ∧ w.heap.size ≤ k) → Shp 5 w w' → wpList Tryd.prog ops Q rest (a.put o.dst v') w') :
    wpList Tryd.prog ops Q (o :: rest) a (w.alloc (.cells #[.int .u8 c] 5)) := by
  obtain ⟨i0, hi, hz0, hz1, hz2⟩ := info_parts Tryd.info_u8
  have hb : Below w.heap.size w (w.alloc (.cells #[.int .u8 c] 5)) := (Below.refl _ _).alloc (Nat.le_refl _) _
  obtain ⟨v', w', hr, h1, h2, h3, h4⟩ := run_append_sh (w.alloc (.cells #[.int .u8 c] 5)) lo 24 o.type 5 i0 (.int .u8 0) 1 1 Tryd.underlying24 hi hz0 hz1 hz2 rfl (by decide) v n (h.shp (Shp.below hb)) ⟨w.heap.size, 0, none⟩ 1 1 [.int .u8 c] rfl (cell_one_new _ _ _)
    (by intro u hu; simp at hu; subst hu; rfl) (by unfold maxLen; omega) (by omega) (by simp; omega)
  refine wpList_plain hgd fun K hK' => ?_
  unfold Oper.wp execOp
  simp only [ho, resolve, invoke, builtin, Sem.run_bind, Sem.run_pure, Result.andThen_ok, List.map_toArray, List.map_cons, List.map_nil, hx, hy, hr]
  refine hK' _ _ (hK v' w' h1 ?_ ?_ ((Shp.below hb).trans h4))
  · refine ⟨h2.os, h2.tape, h2.output, Nat.le_trans hb.size h2.size, fun k hk hne => (h2.block k (Nat.lt_of_lt_of_le hk hb.size) hne).trans (hb.block k hk)⟩
  · rcases h3 with h3 | h3
    · exact .inl h3
    · exact .inr ⟨_, h3, hb.size⟩

/-- 'append(g, m...)', m bytes of a block -/
theorem wp_appMSh {ops : Array Oper} {rest : List Oper} {o : Oper} {a : Act} {Q : Exit → Act → World → Prop} (w : World) (hgd : o.guard = none) (x y : Operand)
    (ho : o.op = .call { callee := .builtin .append, args := #[x, y], argTypes := #[24, 24] })
    (lo : Nat) (v : Value) (n : Nat) (g c : Nat) (m : List UInt8) (k : Nat) (hk : m.length = k) (hx : a.eval x = v) (hy : a.eval y = .slice (some ⟨g, 0, none⟩) k c) (h : ShR w lo 5 1 v n) (hm : BlkB w g m) (hl : n + m.length < 140737488355328) (hlo : lo ≤ w.heap.size)
    (hK : ∀ v' w', ShR w' lo 5 1 v' (n + m.length) → w.grownBy w' v.ownBlock → (v'.ownBlock = v.ownBlock ∨ v'.ownBlock = some w.heap.size) → Shp 5 w w' → wpList Tryd.prog ops Q rest (a.put o.dst v') w') :
    wpList Tryd.prog ops Q (o :: rest) a w := by
  subst hk
  obtain ⟨i0, hi, hz0, hz1, hz2⟩ := info_parts Tryd.info_u8
  obtain ⟨v', w', hr, h1, h2, h3, h4⟩ := run_append_sh w lo 24 o.type 5 i0 (.int .u8 0) 1 1 Tryd.underlying24 hi hz0 hz1 hz2 rfl (by decide) v n h ⟨g, 0, none⟩ m.length c (bytesV m) (by simp [bytesV])
    (by
      intro j u hj
      have e : (⟨g, 0, none⟩ : Addr).add j = ⟨g, j, none⟩ := by unfold Addr.add; split <;> simp_all
      have hjl : j < m.length := by have := (List.getElem?_eq_some_iff.1 hj).1; rwa [bytesV_length] at this
      rw [e, hm.cell j hjl]
      rw [← hj]
      simp [bytesV, byteV, at_, List.getElem?_eq_getElem hjl, List.getD_eq_getElem?_getD])
    (bytesV_one m) (by unfold maxLen; omega) (by omega) hlo
  refine wpList_plain hgd fun K hK' => ?_
  unfold Oper.wp execOp
  simp only [ho, resolve, invoke, builtin, Sem.run_bind, Sem.run_pure, Result.andThen_ok, List.map_toArray, List.map_cons, List.map_nil, hx, hy, hr]
  exact hK' _ _ (hK v' w' h1 h2 h3 h4)

/-- 'v[i] = c' -/
theorem wp_storeSh {ops : Array Oper} {rest : List Oper} {op : Oper} {a : Act} {Q : Exit → Act → World → Prop} (w : World) (hgd : op.guard = none) (x y : Operand) (ho : op.op = .store 5 x y)
    (lo g i n cap : Nat) (c : Int) (h : ShR w lo 5 1 (.slice (some ⟨g, 0, none⟩) n cap) n) (hx : a.eval x = .pointer (some ⟨g, i, none⟩)) (hy : a.eval y = .int .u8 c) (hi : i < n)
    (hK : ∀ w', w'.heap.size = w.heap.size → w.grownBy w' (some g) → Shp 5 w w' → wpList Tryd.prog ops Q rest (a.put op.dst undef) w') : wpList Tryd.prog ops Q (op :: rest) a w := by
  rcases h with ⟨h0, _⟩ | ⟨g', cap', cur, hv, hlo, hg, hn, hc, hs⟩
  · cases h0
  · injection hv with a1 a2 a3
    injection a1 with a1
    injection a1 with a1
    subst a1
    subst a3
    refine wp_storeF w hgd 5 x y ho (by kernel_rfl) g i 5 cur (.int .u8 c) hg hx hy (by omega) rfl rfl ?_
    intro w' h1 h2 h3
    exact hK w' h2 h3 (Shp.store hg h1 (by simp) h3)
end Mm
end Go.Proofs.YtakldjdohgmeiaaDoor

namespace Go.Proofs.YtakldjdohgmeiaaDoor
open Go.RowKit
set_option maxRecDepth 20000

namespace Mm
open Pl
theorem RowB.len {w : World} : ∀ {ts : List RT} {xs : List Value} {bs : List Nat}, RowB w ts xs bs → xs.length = ts.length * 4
  | _, _, _, .nil => rfl
  | _, _, _, .cons t ts cs xs bs bs' h hr => by
    obtain ⟨c0, c1, c2, c3, rfl, _⟩ := h.four
    have := hr.len
    simp only [List.length_append, List.length_cons, List.length_nil, this]
    omega
theorem RowB.one {w : World} : ∀ {ts : List RT} {xs : List Value} {bs : List Nat}, RowB w ts xs bs → ∀ u ∈ xs, u.oneCell' = true
  | _, _, _, .nil, u, hu => by cases hu
  | _, _, _, .cons t ts cs xs bs bs' h hr, u, hu => by
    rcases List.mem_append.1 hu with hu | hu
    · obtain ⟨_, _, _, _, _, h1⟩ := h.four
      exact h1 u hu
    · exact hr.one u hu
/-- 'append(x, y...)', x an empty row of one's own: a row like y -/
theorem wp_appN {ops : Array Oper} {rest : List Oper} {o : Oper} {a : Act} {Q : Exit → Act → World → Prop} (w : World) (hgd : o.guard = none) (x y : Operand)
    (ho : o.op = .call { callee := .builtin .append, args := #[x, y], argTypes := #[29, 29] })
    (lo : Nat) (v : Value) (ad : Addr) (m c : Nat) (xs : List Value) (hx : a.eval x = v) (hy : a.eval y = .slice (some ad) m c) (h : w.ownsRow lo 31 4 v 0 []) (hlo : lo ≤ w.heap.size)
    (hl : xs.length = m * 4) (hc : ∀ j u, xs[j]? = some u → w.cell? (ad.add j) = some u) (h1 : ∀ u ∈ xs, u.oneCell' = true) (hm : m ≤ 1073741824)
    (hK : ∀ v' w', w'.ownsRow lo 31 4 v' m xs → w.grownBy w' v.ownBlock → wpList Tryd.prog ops Q rest (a.put o.dst v') w') :
    wpList Tryd.prog ops Q (o :: rest) a w := by
  obtain ⟨i0, hi, hz0, hz1, hz2⟩ := info_parts Tryd.info_rep
  obtain ⟨v1, w1, hr1, o1, g1, _, _⟩ := run_append_own_at (P := Tryd.prog) w lo 29 o.type 31 i0 (.agg #[.int .i64 0, .string ⟨#[]⟩, .int .i64 0, .slice none 0 0]) 4 56 Tryd.underlying29 hi hz0 hz1 hz2 rfl (by decide) v 0 [] h ad m c xs hl hc h1 (by unfold maxLen; omega) (by omega) hlo
  refine wpList_plain hgd fun K hK' => ?_
  unfold Oper.wp execOp
  simp only [ho, resolve, invoke, builtin, Sem.run_bind, Sem.run_pure, Result.andThen_ok, List.map_toArray, List.map_cons, List.map_nil, hx, hy, hr1]
  refine hK' _ _ (hK _ _ ?_ g1)
  simpa using o1
theorem row_slice {w : World} {lo : Nat} {e : TypeId} {z n : Nat} {v : Value} {xs : List Value} (h : w.ownsRow lo e z v n xs) : ∃ a k c, v = .slice a k c := by
  rcases h.2 with ⟨h, _⟩ | ⟨_, _, _, h, _⟩ <;> exact ⟨_, _, _, h⟩
end Mm

set_option maxHeartbeats 4000000 in
/-- reply.Array: a reply whose list has the cells of the one handed in -/
theorem array_walk (w : World) (ad : Addr) (m c : Nat) (xs : List Value) (hl : xs.length = m * 4) (hc : ∀ j u, xs[j]? = some u → w.cell? (ad.add j) = some u) (h1 : ∀ u ∈ xs, u.oneCell' = true) (hm : m ≤ 1073741824) :
    Calls Tryd.prog 24 #[.slice (some ad) m c] w fun e w' => ∃ v', e = .returned (.agg #[.int .i64 6, .string ⟨#[]⟩, .int .i64 0, v']) ∧ w'.ownsRow w.heap.size 31 4 v' m xs ∧ Below w.heap.size w w' := by
  obtain ⟨w1, hw1⟩ : ∃ w1, w.alloc (.cells #[.int .i64 0, .string ⟨#[]⟩, .int .i64 0, .slice none 0 0] 31) = w1 := ⟨_, rfl⟩
  obtain ⟨r, hr⟩ : ∃ r, w.heap.size = r := ⟨_, rfl⟩
  have HR1 : Hid (w1.heap[r]? = some (.cells #[.int .i64 0, .string ⟨#[]⟩, .int .i64 0, .slice none 0 0] 31 (0, 0))) := by show _ = _; rw [← hw1, ← hr]; exact heap_alloc_new w _
  have HB1 : Hid (Below w.heap.size w w1) := by rw [← hw1]; exact (Below.refl _ _).alloc (Nat.le_refl _) _
  have HRL : Hid (r < w1.heap.size ∧ w.heap.size = r ∧ w.heap.size ≤ w1.heap.size) := ⟨(Array.getElem?_eq_some_iff.1 HR1.out).1, hr, HB1.out.size⟩
  have HC : Hid (∀ j u, xs[j]? = some u → w1.cell? (ad.add j) = some u) := fun j u hj => by
    have := hc j u hj
    exact (HB1.out.cell (World.block_lt_of_cell? _ _ this)).trans this
  have HL := Pl.hid hl
  have H1 := Pl.hid h1
  clear hc hl h1
  go_enter Tryd.func24, Tryd.ntmps24
  go_wp2_with (first
    | (at_builtin; refine Mm.wp_appN w1 rfl _ _ (by rfl) w1.heap.size (.slice none 0 0) ad m c xs (by rfl) (by rfl) ⟨rfl, .inl ⟨rfl, rfl⟩⟩ (Nat.le_refl _) HL.out HC.out H1.out hm ?_; intro v2 w2 ho2 hg2; have HO2 := Pl.hid ho2; have HB2 := Pl.hid ((Below.refl w1.heap.size w1).grown hg2 (Nat.le_refl _) (fun k hk => by cases hk)); clear ho2 hg2; obtain ⟨va, vn, vk, rfl⟩ := Mm.row_slice HO2.out)
    | (refine Mm.wp_store4 _ rfl _ _ rfl r _ _ _ _ _ _ ((HB2.out.block r HRL.out.1).trans HR1.out) rfl rfl rfl (by intro u hu; simp only [List.mem_cons, List.mem_nil_iff, or_false] at hu; rcases hu with rfl | rfl | rfl | rfl <;> rfl) ?_; intro wf hwf hsf hgf; clear hsf; have HWF := Pl.hid hwf; have HGF := Pl.hid hgf; clear hwf hgf))
  refine bodyPost_ret (Mm.res_cell rfl _ wf r _ _ _ _ _ _ rfl HWF.out) rfl ?_
  have hrl := HRL.out
  refine ⟨_, rfl, ?_, (HB1.out.trans (HB2.out.mono HB1.out.size)).grown HGF.out (Nat.le_trans HB1.out.size HB2.out.size) (fun k hk => by injection hk with hk; omega)⟩
  have h2 := Mm.ownsRowR_keep HO2.out (w' := wf) (fun g hg => HGF.out.block g (Mm.ownsRow_lt HO2.out hg) (fun e => by
    injection e with e
    rcases HO2.out.2 with ⟨e', _⟩ | ⟨g', cap, cur, e', hle, _⟩
    · rw [e'] at hg; cases hg
    · rw [e'] at hg
      injection hg with hg
      have hg : g' = g := hg
      omega))
  exact ⟨h2.1, by
    rcases h2.2 with h | ⟨g', cap, cur, e', hle, r⟩
    · exact .inl h
    · exact .inr ⟨g', cap, cur, e', by omega, r⟩⟩

set_option maxHeartbeats 4000000 in
/-- pantryref16.Array: a reply whose list has the cells of the one handed in -/
theorem rarray_walk (w : World) (ad : Addr) (m c : Nat) (xs : List Value) (hl : xs.length = m * 4) (hc : ∀ j u, xs[j]? = some u → w.cell? (ad.add j) = some u) (h1 : ∀ u ∈ xs, u.oneCell' = true) (hm : m ≤ 1073741824) :
    Calls Tryd.prog 25 #[.slice (some ad) m c] w fun e w' => ∃ v', e = .returned (.agg #[.int .i64 6, .string ⟨#[]⟩, .int .i64 0, v']) ∧ w'.ownsRow w.heap.size 31 4 v' m xs ∧ Below w.heap.size w w' := by
  obtain ⟨w1, hw1⟩ : ∃ w1, w.alloc (.cells #[.int .i64 0, .string ⟨#[]⟩, .int .i64 0, .slice none 0 0] 31) = w1 := ⟨_, rfl⟩
  obtain ⟨w2, hw2⟩ : ∃ w2, w1.alloc (.cells #[] 31) = w2 := ⟨_, rfl⟩
  obtain ⟨r, hr⟩ : ∃ r, w.heap.size = r := ⟨_, rfl⟩
  obtain ⟨p, hp⟩ : ∃ p, w1.heap.size = p := ⟨_, rfl⟩
  have HB1 : Hid (Below w.heap.size w w1) := by rw [← hw1]; exact (Below.refl _ _).alloc (Nat.le_refl _) _
  have HB12 : Hid (Below w1.heap.size w1 w2) := by rw [← hw2]; exact (Below.refl _ _).alloc (Nat.le_refl _) _
  have HR1 : Hid (w1.heap[r]? = some (.cells #[.int .i64 0, .string ⟨#[]⟩, .int .i64 0, .slice none 0 0] 31 (0, 0))) := by show _ = _; rw [← hw1, ← hr]; exact heap_alloc_new w _
  have HRL : Hid (r < p ∧ w.heap.size = r ∧ w1.heap.size = p ∧ p < w2.heap.size) := ⟨by rw [← hp]; exact (Array.getElem?_eq_some_iff.1 HR1.out).1, hr, hp, by rw [← hw2, ← hp]; simp⟩
  have HR2 : Hid (w2.heap[r]? = some (.cells #[.int .i64 0, .string ⟨#[]⟩, .int .i64 0, .slice none 0 0] 31 (0, 0))) := (HB12.out.block r (by have := HRL.out; omega)).trans HR1.out
  have HE2 : Hid (w2.ownsRow p 31 4 (.slice (some ⟨p, 0, none⟩) 0 0) 0 []) := ⟨rfl, .inr ⟨p, 0, #[], rfl, Nat.le_refl _, by rw [← hw2, ← hp]; exact heap_alloc_new w1 _, Nat.le_refl _, by decide, rfl, rfl⟩⟩
  have HC : Hid (∀ j u, xs[j]? = some u → w2.cell? (ad.add j) = some u) := fun j u hj => by
    have h := hc j u hj
    have h' := (HB1.out.cell (World.block_lt_of_cell? _ _ h)).trans h
    exact (HB12.out.cell (World.block_lt_of_cell? _ _ h')).trans h'
  have HL := Pl.hid hl
  have H1 := Pl.hid h1
  have HP2 : Hid (p ≤ w2.heap.size) := by have := HRL.out; show _ ≤ _; omega
  clear hc hl h1 HR1
  go_enter Tryd.func25, Tryd.ntmps25
  go_wp2_with (first
    | (at_builtin; refine Mm.wp_appN w2 rfl _ _ (by rfl) p (.slice (some ⟨p, 0, none⟩) 0 0) ad m c xs (by rfl) (by rfl) HE2.out HP2.out HL.out HC.out H1.out hm ?_; intro v3 w3 ho3 hg3; have HO3 := Pl.hid ho3; have HG3 := Pl.hid hg3; have hr3 := (hg3.block r (by have := HRL.out; omega) (fun e => by injection e with e; have e : r = p := e; have := HRL.out; omega)).trans HR2.out; clear ho3 hg3; obtain ⟨va, vn, vk, rfl⟩ := Mm.row_slice HO3.out)
    | (refine Mm.wp_store4 _ rfl _ _ rfl r _ _ _ _ _ _ hr3 rfl rfl rfl (by intro u hu; simp only [List.mem_cons, List.mem_nil_iff, or_false] at hu; rcases hu with rfl | rfl | rfl | rfl <;> rfl) ?_; intro wf hwf hsf hgf; clear hsf; have HWF := Pl.hid hwf; have HGF := Pl.hid hgf; clear hwf hgf))
  refine bodyPost_ret (Mm.res_cell rfl _ wf r _ _ _ _ _ _ rfl HWF.out) rfl ?_
  have hrl := HRL.out
  have b1 := HB1.out
  have b2 : Below w.heap.size w w2 := b1.trans (HB12.out.mono b1.size)
  have b3 : Below w.heap.size w w3 := b2.grown HG3.out b2.size (fun k hk => by injection hk with hk; have hk : p = k := hk; omega)
  refine ⟨_, rfl, ?_, b3.grown HGF.out b3.size (fun k hk => by injection hk with hk; omega)⟩
  have h2 := Mm.ownsRowR_keep HO3.out (w' := wf) (fun g hg => HGF.out.block g (Mm.ownsRow_lt HO3.out hg) (fun e => by
    injection e with e
    rcases HO3.out.2 with ⟨e', _⟩ | ⟨g', cap, cur, e', hle, _⟩
    · rw [e'] at hg; cases hg
    · rw [e'] at hg
      injection hg with hg
      have hg : g' = g := hg
      omega))
  exact ⟨h2.1, by
    rcases h2.2 with h | ⟨g', cap, cur, e', hle, r⟩
    · exact .inl h
    · exact .inr ⟨g', cap, cur, e', by omega, r⟩⟩
end Go.Proofs.YtakldjdohgmeiaaDoor

namespace Go.Proofs.YtakldjdohgmeiaaDoor
open Go.RowKit
set_option maxRecDepth 20000

namespace Mm
open Pl
/-- m elements that can be read -/
def Src (w : World) (vy : Value) (m : Nat) (xs : List Value) : Prop := (vy = .slice none 0 0 ∧ m = 0 ∧ xs = []) ∨ ∃ ad c, vy = .slice (some ad) m c ∧ ∀ j u, xs[j]? = some u → w.cell? (ad.add j) = some u
theorem Src.of_own {w : World} {lo : Nat} {e : TypeId} {z n : Nat} {v : Value} {xs : List Value} (h : w.ownsRow lo e z v n xs) : Src w v n xs := by
  obtain ⟨hl, ⟨rfl, rfl⟩ | ⟨g, cap, cur, rfl, _, hh, _, _, _, ht⟩⟩ := h
  · exact .inl ⟨rfl, rfl, List.eq_nil_of_length_eq_zero (by simpa using hl)⟩
  · refine .inr ⟨_, _, rfl, fun j u hj => ?_⟩
    have e : (⟨g, 0, none⟩ : Addr).add j = ⟨g, j, none⟩ := by unfold Addr.add; split <;> simp_all
    rw [e]
    refine cell_of hh ?_
    rw [← ht, List.getElem?_take] at hj
    split at hj
    · rw [← Array.getElem?_toList]; exact hj
    · cases hj
theorem Src.below {w w' : World} {v : Value} {m : Nat} {xs : List Value} (h : Src w v m xs) (hb : Below w.heap.size w w') : Src w' v m xs := by
  rcases h with h | ⟨ad, c, e, h⟩
  · exact .inl h
  · exact .inr ⟨ad, c, e, fun j u hj => by
      have := h j u hj
      exact (hb.cell (World.block_lt_of_cell? _ _ this)).trans this⟩
theorem some_form {w : World} {lo : Nat} {e : TypeId} {z n : Nat} {v : Value} {xs : List Value} (h : w.ownsRow lo e z v n xs) (hn : v ≠ .slice none 0 0) : ∃ g c, v = .slice (some ⟨g, 0, none⟩) n c ∧ lo ≤ g ∧ g < w.heap.size := by
  rcases h.2 with ⟨h, _⟩ | ⟨g, c, _, h, hle, hh, _⟩
  · exact absurd h hn
  · exact ⟨g, c, h, hle, (Array.getElem?_eq_some_iff.1 hh).1⟩
/-- 'append(x, y...)', x a row of one's own without elements -/
theorem wp0_appN {o : Oper} {a : Act} {K : Act → World → Prop} {Q : Exit → Act → World → Prop} (w : World) (x y : Operand)
    (ho : o.op = .call { callee := .builtin .append, args := #[x, y], argTypes := #[29, 29] })
    (lo g0 c0 : Nat) (vy : Value) (m : Nat) (xs : List Value) (hx : a.eval x = .slice (some ⟨g0, 0, none⟩) 0 c0) (hy : a.eval y = vy) (h : w.ownsRow lo 31 4 (.slice (some ⟨g0, 0, none⟩) 0 c0) 0 []) (hlo : lo ≤ w.heap.size)
    (hl : xs.length = m * 4) (hs : Src w vy m xs) (h1 : ∀ u ∈ xs, u.oneCell' = true) (hm : m ≤ 1073741824)
    (hK : ∀ g' c' w', w'.ownsRow lo 31 4 (.slice (some ⟨g', 0, none⟩) m c') m xs → lo ≤ g' → g' < w'.heap.size → Below lo w w' → K (a.put o.dst (.slice (some ⟨g', 0, none⟩) m c')) w') : Oper.wp Tryd.prog o a w K Q := by
  obtain ⟨i0, hi, hz0, hz1, hz2⟩ := info_parts Tryd.info_rep
  have hg0 : lo ≤ g0 := by
    obtain ⟨g, c, e, hle, _⟩ := some_form h (by simp)
    injection e with e1 _ _
    injection e1 with e1
    injection e1 with e1
    omega
  unfold Oper.wp execOp
  rcases hs with ⟨rfl, rfl, rfl⟩ | ⟨ad, c, rfl, hc⟩
  · have hrun := run_append_owned_none (P := Tryd.prog) (w := w) lo 29 o.type 31 i0 4 Tryd.underlying29 hi _ 0 [] h
    simp only [ho, resolve, invoke, builtin, Sem.run_bind, Sem.run_pure, Result.andThen_ok, List.map_toArray, List.map_cons, List.map_nil, hx, hy, hrun]
    obtain ⟨g, cc, e, hle, hlt⟩ := some_form h (by simp)
    injection e with e1 _ e3
    injection e1 with e1
    injection e1 with e1
    subst e1
    exact hK g0 c0 w h hle hlt (Below.refl _ _)
  · obtain ⟨v1, w1, hr1, o1, g1, hn1, _⟩ := run_append_own_at (P := Tryd.prog) w lo 29 o.type 31 i0 (.agg #[.int .i64 0, .string ⟨#[]⟩, .int .i64 0, .slice none 0 0]) 4 56 Tryd.underlying29 hi hz0 hz1 hz2 rfl (by decide) _ 0 [] h ad m c xs hl hc h1 (by unfold maxLen; omega) (by omega) hlo
    simp only [ho, resolve, invoke, builtin, Sem.run_bind, Sem.run_pure, Result.andThen_ok, List.map_toArray, List.map_cons, List.map_nil, hx, hy, hr1]
    have o1' : w1.ownsRow lo 31 4 v1 m xs := by simpa using o1
    obtain ⟨g', c', rfl, hle, hlt⟩ := some_form o1' (fun e => by have := (hn1.1 e).1; cases this)
    exact hK g' c' w1 o1' hle hlt ((Below.refl lo w).grown g1 hlo (fun k hk => by cases hk; exact hg0))
theorem step_appN {ops : Array Oper} {o : Oper} {a : Act} {K : Act → World → Prop} {Q : Exit → Act → World → Prop} {E : Prop} (w : World) (hgd : o.guard = none) (x y : Operand)
    (ho : o.op = .call { callee := .builtin .append, args := #[x, y], argTypes := #[29, 29] })
    (lo g0 c0 : Nat) (vy : Value) (m : Nat) (xs : List Value) (hx : a.eval x = .slice (some ⟨g0, 0, none⟩) 0 c0) (hy : a.eval y = vy) (h : w.ownsRow lo 31 4 (.slice (some ⟨g0, 0, none⟩) 0 c0) 0 []) (hlo : lo ≤ w.heap.size)
    (hl : xs.length = m * 4) (hs : Src w vy m xs) (h1 : ∀ u ∈ xs, u.oneCell' = true) (hm : m ≤ 1073741824)
    (hK : ∀ g' c' w', w'.ownsRow lo 31 4 (.slice (some ⟨g', 0, none⟩) m c') m xs → lo ≤ g' → g' < w'.heap.size → Below lo w w' → K (a.put o.dst (.slice (some ⟨g', 0, none⟩) m c')) w') :
    if Region.wanted o (yielded ops a.tmps) = true then Oper.wp Tryd.prog o a w K Q else E := by
  have hwd : Region.wanted o (yielded ops a.tmps) = true := by simp [Region.wanted, hgd]
  rw [if_pos hwd]
  exact wp0_appN w x y ho lo g0 c0 vy m xs hx hy h hlo hl hs h1 hm hK
/-- 'make([]api.Reply, 0, n)' -/
theorem step_make4 {ops : Array Oper} {o : Oper} {a : Act} {K : Act → World → Prop} {Q : Exit → Act → World → Prop} {E : Prop} (w : World) (hgd : o.guard = none) (x y : Operand) (ho : o.op = .makeSlice 29 x y)
    (n : Nat) (C : Int) (hx : a.eval x = .int .i64 0) (hy : a.eval y = .int .i64 C) (hC : C = (n : Int)) (hn : n ≤ 1073741824)
    (hK : ∀ w', w'.ownsRow w.heap.size 31 4 (.slice (some ⟨w.heap.size, 0, none⟩) 0 n) 0 [] → Below w.heap.size w w' → K (a.put o.dst (.slice (some ⟨w.heap.size, 0, none⟩) 0 n)) w') :
    if Region.wanted o (yielded ops a.tmps) = true then Oper.wp Tryd.prog o a w K Q else E := by
  have hwd : Region.wanted o (yielded ops a.tmps) = true := by simp [Region.wanted, hgd]
  rw [if_pos hwd]
  obtain ⟨i0, hi, hz0, hz1, hz2⟩ := info_parts Tryd.info_rep
  obtain ⟨w', hrun, r1, r2⟩ := run_make_own (P := Tryd.prog) w w.heap.size 29 31 i0 _ 4 Tryd.underlying29 hi hz0 hz1 .i64 .i64 n (by rw [hz2]; omega) (by unfold maxLen; omega) (Nat.le_refl _)
  subst hC
  unfold Oper.wp
  simp [execOp, ho, hx, hy, hrun, Result.andThen]
  exact hK _ r1 ((Below.refl _ _).grown r2 (Nat.le_refl _) (fun k hk => by cases hk))
/-- 'make([]string, 0, n)' -/
theorem wp_makeT {ops : Array Oper} {rest : List Oper} {o : Oper} {a : Act} {Q : Exit → Act → World → Prop} (w : World) (hgd : o.guard = none) (x y : Operand) (ho : o.op = .makeSlice 22 x y)
    (n : Nat) (C : Int) (hx : a.eval x = .int .i64 0) (hy : a.eval y = .int .i64 C) (hC : C = (n : Int)) (hn : n ≤ 1073741824)
    (hK : ∀ w', w'.ownsRow w.heap.size 9 1 (.slice (some ⟨w.heap.size, 0, none⟩) 0 n) 0 [] → Below w.heap.size w w' → wpList Tryd.prog ops Q rest (a.put o.dst (.slice (some ⟨w.heap.size, 0, none⟩) 0 n)) w') : wpList Tryd.prog ops Q (o :: rest) a w := by
  obtain ⟨i0, hi, hz0, hz1, hz2⟩ := info_parts Tryd.info_str
  obtain ⟨w', hrun, r1, r2⟩ := run_make_own (P := Tryd.prog) w w.heap.size 22 9 i0 _ 1 Tryd.underlying22 hi hz0 hz1 .i64 .i64 n (by rw [hz2]; omega) (by unfold maxLen; omega) (Nat.le_refl _)
  subst hC
  refine wpList_plain hgd fun K hK' => ?_
  unfold Oper.wp
  simp [execOp, ho, hx, hy, hrun, Result.andThen]
  exact hK' _ _ (hK _ r1 ((Below.refl _ _).grown r2 (Nat.le_refl _) (fun k hk => by cases hk)))
/-- 'append(x, y...)' of texts, x a row of one's own without elements -/
theorem wp_appT {ops : Array Oper} {rest : List Oper} {o : Oper} {a : Act} {Q : Exit → Act → World → Prop} (w : World) (hgd : o.guard = none) (x y : Operand)
    (ho : o.op = .call { callee := .builtin .append, args := #[x, y], argTypes := #[22, 22] })
    (lo g0 c0 : Nat) (vy : Value) (m : Nat) (xs : List Value) (hx : a.eval x = .slice (some ⟨g0, 0, none⟩) 0 c0) (hy : a.eval y = vy) (h : w.ownsRow lo 9 1 (.slice (some ⟨g0, 0, none⟩) 0 c0) 0 []) (hlo : lo ≤ w.heap.size)
    (hl : xs.length = m * 1) (hs : Src w vy m xs) (h1 : ∀ u ∈ xs, u.oneCell' = true) (hm : m ≤ 1073741824)
    (hK : ∀ g' c' w', w'.ownsRow lo 9 1 (.slice (some ⟨g', 0, none⟩) m c') m xs → lo ≤ g' → g' < w'.heap.size → Below lo w w' → wpList Tryd.prog ops Q rest (a.put o.dst (.slice (some ⟨g', 0, none⟩) m c')) w') : wpList Tryd.prog ops Q (o :: rest) a w := by
  obtain ⟨i0, hi, hz0, hz1, hz2⟩ := info_parts Tryd.info_str
  have hg0 : lo ≤ g0 := by
    obtain ⟨g, c, e, hle, _⟩ := some_form h (by simp)
    injection e with e1 _ _
    injection e1 with e1
    injection e1 with e1
    omega
  refine wpList_plain hgd fun K hK' => ?_
  unfold Oper.wp execOp
  rcases hs with ⟨rfl, rfl, rfl⟩ | ⟨ad, c, rfl, hc⟩
  · have hrun := run_append_owned_none (P := Tryd.prog) (w := w) lo 22 o.type 9 i0 1 Tryd.underlying22 hi _ 0 [] h
    simp only [ho, resolve, invoke, builtin, Sem.run_bind, Sem.run_pure, Result.andThen_ok, List.map_toArray, List.map_cons, List.map_nil, hx, hy, hrun]
    obtain ⟨g, cc, e, hle, hlt⟩ := some_form h (by simp)
    injection e with e1 _ e3
    injection e1 with e1
    injection e1 with e1
    subst e1
    exact hK' _ _ (hK g0 c0 w h hle hlt (Below.refl _ _))
  · obtain ⟨v1, w1, hr1, o1, g1, hn1, _⟩ := run_append_own_at (P := Tryd.prog) w lo 22 o.type 9 i0 (.string ⟨#[]⟩) 1 16 Tryd.underlying22 hi hz0 hz1 hz2 rfl (by decide) _ 0 [] h ad m c xs hl hc h1 (by unfold maxLen; omega) (by omega) hlo
    simp only [ho, resolve, invoke, builtin, Sem.run_bind, Sem.run_pure, Result.andThen_ok, List.map_toArray, List.map_cons, List.map_nil, hx, hy, hr1]
    have o1' : w1.ownsRow lo 9 1 v1 m xs := by simpa using o1
    obtain ⟨g', c', rfl, hle, hlt⟩ := some_form o1' (fun e => by have := (hn1.1 e).1; cases this)
    exact hK' _ _ (hK g' c' w1 o1' hle hlt ((Below.refl lo w).grown g1 hlo (fun k hk => by cases hk; exact hg0)))
end Mm

set_option maxHeartbeats 4000000 in
/-- pantryref16.Array of no list -/
theorem rarray_none (w : World) :
    Calls Tryd.prog 25 #[.slice none 0 0] w fun e w' => ∃ v', e = .returned (.agg #[.int .i64 6, .string ⟨#[]⟩, .int .i64 0, v']) ∧ w'.ownsRow w.heap.size 31 4 v' 0 [] ∧ Below w.heap.size w w' := by
  obtain ⟨w1, hw1⟩ : ∃ w1, w.alloc (.cells #[.int .i64 0, .string ⟨#[]⟩, .int .i64 0, .slice none 0 0] 31) = w1 := ⟨_, rfl⟩
  obtain ⟨w2, hw2⟩ : ∃ w2, w1.alloc (.cells #[] 31) = w2 := ⟨_, rfl⟩
  obtain ⟨r, hr⟩ : ∃ r, w.heap.size = r := ⟨_, rfl⟩
  obtain ⟨p, hp⟩ : ∃ p, w1.heap.size = p := ⟨_, rfl⟩
  have HB1 : Hid (Below w.heap.size w w1) := by rw [← hw1]; exact (Below.refl _ _).alloc (Nat.le_refl _) _
  have HB12 : Hid (Below w1.heap.size w1 w2) := by rw [← hw2]; exact (Below.refl _ _).alloc (Nat.le_refl _) _
  have HR1 : Hid (w1.heap[r]? = some (.cells #[.int .i64 0, .string ⟨#[]⟩, .int .i64 0, .slice none 0 0] 31 (0, 0))) := by show _ = _; rw [← hw1, ← hr]; exact heap_alloc_new w _
  have HRL : Hid (r < p ∧ w.heap.size = r ∧ w1.heap.size = p ∧ p < w2.heap.size) := ⟨by rw [← hp]; exact (Array.getElem?_eq_some_iff.1 HR1.out).1, hr, hp, by rw [← hw2, ← hp]; simp⟩
  have HR2 : Hid (w2.heap[r]? = some (.cells #[.int .i64 0, .string ⟨#[]⟩, .int .i64 0, .slice none 0 0] 31 (0, 0))) := (HB12.out.block r (by have := HRL.out; omega)).trans HR1.out
  have HE2 : Hid (w2.ownsRow p 31 4 (.slice (some ⟨p, 0, none⟩) 0 0) 0 []) := ⟨rfl, .inr ⟨p, 0, #[], rfl, Nat.le_refl _, by rw [← hw2, ← hp]; exact heap_alloc_new w1 _, Nat.le_refl _, by decide, rfl, rfl⟩⟩
  clear HR1
  obtain ⟨i0, hi, _⟩ := info_parts Mm.Tryd.info_rep
  have HI0 := Pl.hid hi
  clear hi
  go_enter Tryd.func25, Tryd.ntmps25
  go_wp2_with (first
    | (at_builtin; refine wpList_append_own_none rfl _ _ 29 (by rfl) p 31 i0 4 Tryd.underlying29 HI0.out (.slice (some ⟨p, 0, none⟩) 0 0) 0 [] (by rfl) HE2.out (by rfl) ?_)
    | (refine Mm.wp_store4 _ rfl _ _ rfl r _ _ _ _ _ _ HR2.out rfl rfl rfl (by intro u hu; simp only [List.mem_cons, List.mem_nil_iff, or_false] at hu; rcases hu with rfl | rfl | rfl | rfl <;> rfl) ?_; intro wf hwf hsf hgf; clear hsf; have HWF := Pl.hid hwf; have HGF := Pl.hid hgf; clear hwf hgf))
  refine bodyPost_ret (Mm.res_cell rfl _ wf r _ _ _ _ _ _ rfl HWF.out) rfl ?_
  have hrl := HRL.out
  have b1 := HB1.out
  have b2 : Below w.heap.size w w2 := b1.trans (HB12.out.mono b1.size)
  refine ⟨_, rfl, ?_, b2.grown HGF.out b2.size (fun k hk => by injection hk with hk; omega)⟩
  have h2 := Mm.ownsRowR_keep HE2.out (w' := wf) (fun g hg => HGF.out.block g (Mm.ownsRow_lt HE2.out hg) (fun e => by
    injection e with e
    have hg : p = g := by injection hg
    omega))
  exact ⟨h2.1, by
    rcases h2.2 with h | ⟨g', cap, cur, e', hle, r⟩
    · exact .inl h
    · exact .inr ⟨g', cap, cur, e', by omega, r⟩⟩
end Go.Proofs.YtakldjdohgmeiaaDoor
