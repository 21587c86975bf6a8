/- Replies as trees, and how they lie in memory. Conditions stand in each law. Rows whose cells are of no account: what an append, a store, leaves of them. Conditions stand in each law. pantrylaw16's same and spoil. Conditions stand in each law. pantrylaw16's spoilt: it writes into the lists of a reply, and nowhere else. Conditions stand in each law. Conditions stand in each law. -/
import Derived.Test.YtakldjdohgmeiaaDoorBuReplyWrites2
import Derived.Maps.AppendAt
import Derived.Laws.ResultCell
import Derived.Laws.Rows
import Derived.Deep.DeepAppendRoom
import Derived.BigQuiet
namespace Go.Proofs.YtakldjdohgmeiaaDoor
open Go.RowKit
set_option maxRecDepth 20000

/-- a reply: its kind, text, number, list -/
inductive RT where
  | mk (k : Int) (s : ByteArray) (n : Int) (l : List RT)

namespace RT
theorem ind {P : RT → Prop} (h : ∀ k s n l, (∀ x ∈ l, P x) → P (.mk k s n l)) (t : RT) : P t :=
  RT.rec (motive_1 := P) (motive_2 := fun l => ∀ x ∈ l, P x) (fun k s n l ih => h k s n l ih) (fun x hx => by cases hx)
    (fun a l ha hl x hx => by
      rcases List.mem_cons.1 hx with rfl | hx
      · exact ha
      · exact hl x hx) t
mutual
/-- a bound for a reply's bytes -/
def sz : RT → Nat
  | .mk _ s _ l => s.size + 25 + szL l
def szL : List RT → Nat
  | [] => 0
  | t :: ts => sz t + szL ts
end
theorem szL_append : ∀ (a b : List RT), szL (a ++ b) = szL a + szL b
  | [], b => by simp [szL]
  | x :: a, b => by simp [szL, szL_append a b, Nat.add_assoc]
theorem sz_mk (k : Int) (s : ByteArray) (n : Int) (l : List RT) : sz (.mk k s n l) = s.size + 25 + szL l := by simp [sz]
theorem szL_snoc (a : List RT) (t : RT) : szL (a ++ [t]) = szL a + sz t := by simp [szL_append, szL]
theorem sz_pos (t : RT) : 25 ≤ sz t := by cases t; rw [sz_mk]; omega
theorem szL_mem : ∀ {l : List RT} {t : RT}, t ∈ l → sz t ≤ szL l
  | x :: l, t, h => by
    rcases List.mem_cons.1 h with rfl | h
    · simp [szL]
    · have := szL_mem h
      simp only [szL]
      omega
theorem szL_len : ∀ l : List RT, 25 * l.length ≤ szL l
  | [] => by simp [szL]
  | t :: ts => by
    have := szL_len ts
    have := sz_pos t
    simp only [szL, List.length_cons]
    omega
end RT

namespace Mm
open Pl
theorem Tryd.info_rep : (Tryd.prog.info? 31).map (fun i => (i.zero, i.size, i.bytes)) = some (some (.agg #[.int .i64 0, .string ⟨#[]⟩, .int .i64 0, .slice none 0 0]), 4, 56) := by kernel_rfl

theorem Tryd.info_rl : (Tryd.prog.info? 29).map (·.size) = some 1 := by kernel_rfl
mutual
/-- four cells are a reply; the blocks of its lists -/
inductive RepB (w : World) : RT → List Value → List Nat → Prop
  | mk (k : Int) (s : ByteArray) (n : Int) (l : List RT) (v : Value) (xs : List Value) (bs : List Nat) (hown : w.ownsRow 0 31 4 v l.length xs) (hr : RowB w l xs bs) :
      RepB w (.mk k s n l) [.int .i64 k, .string s, .int .i64 n, v] (v.ownBlock.toList ++ bs)
/-- cells are a row of replies -/
inductive RowB (w : World) : List RT → List Value → List Nat → Prop
  | nil : RowB w [] [] []
  | cons (t : RT) (ts : List RT) (cs xs : List Value) (bs bs' : List Nat) (h : RepB w t cs bs) (hr : RowB w ts xs bs') : RowB w (t :: ts) (cs ++ xs) (bs ++ bs')
end

theorem RepB.four {w : World} {t : RT} {cs : List Value} {bs : List Nat} (h : RepB w t cs bs) : ∃ c0 c1 c2 c3, cs = [c0, c1, c2, c3] ∧ ∀ u ∈ cs, u.oneCell' = true := by
  cases h with
  | mk k s n l v xs bs hown hr =>
    refine ⟨_, _, _, _, rfl, ?_⟩
    intro u hu
    simp only [List.mem_cons, List.mem_nil_iff, or_false] at hu
    rcases hu with rfl | rfl | rfl | rfl
    · rfl
    · rfl
    · rfl
    · rcases hown.2 with ⟨rfl, _⟩ | ⟨g, cap, cur, rfl, _⟩ <;> rfl

theorem ownsRowR_keep {w w' : World} {b : Nat} {e : TypeId} {z n : Nat} {v : Value} {xs : List Value} (h : w.ownsRow b e z v n xs) (hb : ∀ g, v.ownBlock = some g → w'.heap[g]? = w.heap[g]?) : w'.ownsRow b e z v n xs := by
  obtain ⟨hl, h0 | ⟨g, cap, cur, hv, hg, hh, r⟩⟩ := h
  · exact ⟨hl, .inl h0⟩
  · exact ⟨hl, .inr ⟨g, cap, cur, hv, hg, by rw [hb g (by rw [hv]; rfl)]; exact hh, r⟩⟩

mutual
theorem RepB.keep {w w' : World} : ∀ {t : RT} {cs : List Value} {bs : List Nat}, RepB w t cs bs → (∀ g ∈ bs, w'.heap[g]? = w.heap[g]?) → RepB w' t cs bs
  | _, _, _, .mk k s n l v xs bs hown hr, hb => .mk k s n l v xs bs (ownsRowR_keep hown fun g hg => hb g (by simp [hg])) (RowB.keep hr fun g hg => hb g (by simp [hg]))
theorem RowB.keep {w w' : World} : ∀ {ts : List RT} {xs : List Value} {bs : List Nat}, RowB w ts xs bs → (∀ g ∈ bs, w'.heap[g]? = w.heap[g]?) → RowB w' ts xs bs
  | _, _, _, .nil, _ => .nil
  | _, _, _, .cons t ts cs xs bs bs' h hr, hb => .cons t ts cs xs bs bs' (RepB.keep h fun g hg => hb g (by simp [hg])) (RowB.keep hr fun g hg => hb g (by simp [hg]))
end

theorem ownsRow_lt {w : World} {b : Nat} {e : TypeId} {z n : Nat} {v : Value} {xs : List Value} (h : w.ownsRow b e z v n xs) {g : Nat} (hg : v.ownBlock = some g) : g < w.heap.size := by
  obtain ⟨hl, ⟨rfl, _⟩ | ⟨g', cap, cur, rfl, _, hh, _⟩⟩ := h
  · cases hg
  · cases hg
    exact (Array.getElem?_eq_some_iff.1 hh).1

mutual
theorem RepB.lt {w : World} : ∀ {t : RT} {cs : List Value} {bs : List Nat}, RepB w t cs bs → ∀ g ∈ bs, g < w.heap.size
  | _, _, _, .mk k s n l v xs bs hown hr, g, hg => by
    rcases List.mem_append.1 hg with hg | hg
    · exact ownsRow_lt hown (by simpa using hg)
    · exact RowB.lt hr g hg
theorem RowB.lt {w : World} : ∀ {ts : List RT} {xs : List Value} {bs : List Nat}, RowB w ts xs bs → ∀ g ∈ bs, g < w.heap.size
  | _, _, _, .nil, g, hg => by cases hg
  | _, _, _, .cons t ts cs xs bs bs' h hr, g, hg => by
    rcases List.mem_append.1 hg with hg | hg
    · exact RepB.lt h g hg
    · exact RowB.lt hr g hg
end

theorem RowB.snoc {w : World} {t : RT} {cs : List Value} {bs' : List Nat} (h : RepB w t cs bs') : ∀ {ts : List RT} {xs : List Value} {bs : List Nat}, RowB w ts xs bs → RowB w (ts ++ [t]) (xs ++ cs) (bs ++ bs')
  | _, _, _, .nil => by
    have := RowB.cons t [] cs [] bs' [] h .nil
    simpa using this
  | _, _, _, .cons t0 ts cs0 xs bs0 bs1 h0 hr => by
    have := RowB.cons t0 _ cs0 _ bs0 _ h0 (RowB.snoc h hr)
    simpa using this

theorem RowB.at {w : World} : ∀ {ts : List RT} {xs : List Value} {bs : List Nat}, RowB w ts xs bs → ∀ (i : Nat) (hi : i < ts.length),
    ∃ c0 c1 c2 c3 bs', xs[i * 4]? = some c0 ∧ xs[i * 4 + 1]? = some c1 ∧ xs[i * 4 + 2]? = some c2 ∧ xs[i * 4 + 3]? = some c3 ∧ RepB w (ts[i]'hi) [c0, c1, c2, c3] bs' ∧ ∀ g ∈ bs', g ∈ bs
  | _, _, _, .nil, i, hi => by simp at hi
  | _, _, _, .cons t ts cs xs bs bs' h hr, i, hi => by
    obtain ⟨c0, c1, c2, c3, rfl, _⟩ := h.four
    cases i with
    | zero => exact ⟨c0, c1, c2, c3, bs, rfl, rfl, rfl, rfl, h, fun g hg => by simp [hg]⟩
    | succ i =>
      obtain ⟨d0, d1, d2, d3, bs1, e0, e1, e2, e3, h1, h2⟩ := RowB.at hr i (by simpa using hi)
      refine ⟨d0, d1, d2, d3, bs1, ?_, ?_, ?_, ?_, h1, fun g hg => by simp [h2 g hg]⟩ <;>
        (rw [show (i + 1) * 4 = i * 4 + 4 by omega]; simpa [Nat.add_right_comm] using (by assumption))

/-- a reply that can be read -/
def RepX (w : World) (t : RT) (cs : List Value) : Prop := ∃ bs, RepB w t cs bs
theorem RepX.keep {w w' : World} {t : RT} {cs : List Value} (h : RepX w t cs) (hb : Below w.heap.size w w') : RepX w' t cs := by
  obtain ⟨bs, h⟩ := h
  exact ⟨bs, h.keep fun g hg => hb.block g (h.lt g hg)⟩
theorem RepX.one {w : World} {t : RT} {cs : List Value} (h : RepX w t cs) : ∀ u ∈ cs, u.oneCell' = true := by
  obtain ⟨bs, h⟩ := h
  obtain ⟨_, _, _, _, _, h⟩ := h.four
  exact h
/-- a reply, opened -/
theorem RepX.open {w : World} {k : Int} {s : ByteArray} {n : Int} {l : List RT} {cs : List Value} (h : RepX w (.mk k s n l) cs) :
    ∃ (a : Option Addr) (cap : Nat), cs = [.int .i64 k, .string s, .int .i64 n, .slice a l.length cap] ∧ (l.length = 0 ∨ ∃ b, a = some ⟨b, 0, none⟩ ∧ b < w.heap.size ∧
      ∀ i (hi : i < l.length), ∃ c0 c1 c2 c3, w.cell? ⟨b, i * 4, none⟩ = some c0 ∧ w.cell? ⟨b, i * 4 + 1, none⟩ = some c1 ∧ w.cell? ⟨b, i * 4 + 2, none⟩ = some c2 ∧ w.cell? ⟨b, i * 4 + 3, none⟩ = some c3 ∧ RepX w (l[i]'hi) [c0, c1, c2, c3]) := by
  obtain ⟨bs, h⟩ := h
  cases h with
  | mk k s n l v xs bs hown hr =>
    rcases hown.2 with ⟨rfl, h0⟩ | ⟨g, cap, cur, rfl, _, hh, hle, hm, hc, ht⟩
    · exact ⟨none, 0, by rw [h0], .inl h0⟩
    · refine ⟨_, _, rfl, .inr ⟨g, rfl, (Array.getElem?_eq_some_iff.1 hh).1, fun i hi => ?_⟩⟩
      obtain ⟨c0, c1, c2, c3, bs', e0, e1, e2, e3, h1, _⟩ := hr.at i hi
      have key : ∀ j u, xs[j]? = some u → w.cell? ⟨g, j, none⟩ = some u := by
        intro j u hj
        rw [← ht] at hj
        have hlt := (List.getElem?_eq_some_iff.1 hj).1
        rw [List.length_take] at hlt
        rw [List.getElem?_take_of_lt (by omega)] at hj
        unfold World.cell?
        rw [hh]
        simpa using hj
      exact ⟨c0, c1, c2, c3, key _ _ e0, key _ _ e1, key _ _ e2, key _ _ e3, bs', h1⟩

/-- a row of replies in blocks of one's own -/
def OwnL (w : World) (lo : Nat) (v : Value) (ts : List RT) : Prop :=
  ∃ xs bs, w.ownsRow 0 31 4 v ts.length xs ∧ RowB w ts xs bs ∧ (v.ownBlock.toList ++ bs).Nodup ∧ ∀ g ∈ v.ownBlock.toList ++ bs, lo ≤ g
/-- a reply in blocks of one's own -/
def OwnT (w : World) (lo : Nat) (t : RT) (cs : List Value) : Prop := ∃ bs, RepB w t cs bs ∧ bs.Nodup ∧ ∀ g ∈ bs, lo ≤ g

theorem OwnL.nil (w : World) (lo : Nat) : OwnL w lo (.slice none 0 0) [] := ⟨[], [], ⟨rfl, .inl ⟨rfl, rfl⟩⟩, .nil, by simp [Value.ownBlock], by simp [Value.ownBlock]⟩
theorem OwnL.rep {w : World} {lo : Nat} {v : Value} {ts : List RT} (h : OwnL w lo v ts) (k : Int) (s : ByteArray) (n : Int) : OwnT w lo (.mk k s n ts) [.int .i64 k, .string s, .int .i64 n, v] := by
  obtain ⟨xs, bs, h1, h2, h3, h4⟩ := h
  exact ⟨_, .mk k s n ts v xs bs h1 h2, h3, h4⟩
theorem OwnT.list {w : World} {lo : Nat} {k : Int} {s : ByteArray} {n : Int} {l : List RT} {cs : List Value} (h : OwnT w lo (.mk k s n l) cs) : ∃ v, cs = [.int .i64 k, .string s, .int .i64 n, v] ∧ OwnL w lo v l := by
  obtain ⟨bs, h1, h2, h3⟩ := h
  cases h1 with
  | mk k s n l v xs bs hown hr => exact ⟨v, rfl, xs, bs, hown, hr, h2, h3⟩
theorem OwnT.x {w : World} {lo : Nat} {t : RT} {cs : List Value} (h : OwnT w lo t cs) : RepX w t cs := ⟨h.choose, h.choose_spec.1⟩
theorem OwnT.below {w w' : World} {lo : Nat} {t : RT} {cs : List Value} (h : OwnT w lo t cs) (hb : Below w.heap.size w w') : OwnT w' lo t cs := by
  obtain ⟨bs, h1, h2, h3⟩ := h
  exact ⟨bs, h1.keep fun g hg => hb.block g (h1.lt g hg), h2, h3⟩
theorem OwnT.lo {w : World} {lo lo' : Nat} {t : RT} {cs : List Value} (h : OwnT w lo t cs) (hl : lo' ≤ lo) : OwnT w lo' t cs := by
  obtain ⟨bs, h1, h2, h3⟩ := h
  exact ⟨bs, h1, h2, fun g hg => Nat.le_trans hl (h3 g hg)⟩
theorem OwnL.below {w w' : World} {lo : Nat} {v : Value} {ts : List RT} (h : OwnL w lo v ts) (hb : Below w.heap.size w w') : OwnL w' lo v ts := by
  obtain ⟨xs, bs, h1, h2, h3, h4⟩ := h
  exact ⟨xs, bs, ownsRowR_keep h1 fun g hg => hb.block g (ownsRow_lt h1 hg), h2.keep fun g hg => hb.block g (h2.lt g hg), h3, h4⟩
theorem OwnT.keepLo {w w' : World} {lo : Nat} {t : RT} {cs : List Value} (h : OwnT w lo t cs) (hb : ∀ g, lo ≤ g → g < w.heap.size → w'.heap[g]? = w.heap[g]?) : OwnT w' lo t cs := by
  obtain ⟨bs, h1, h2, h3⟩ := h
  exact ⟨bs, h1.keep fun g hg => hb g (h3 g hg) (h1.lt g hg), h2, h3⟩
theorem OwnL.keepLo {w w' : World} {lo : Nat} {v : Value} {ts : List RT} (h : OwnL w lo v ts) (hb : ∀ g, lo ≤ g → g < w.heap.size → w'.heap[g]? = w.heap[g]?) : OwnL w' lo v ts := by
  obtain ⟨xs, bs, h1, h2, h3, h4⟩ := h
  exact ⟨xs, bs, ownsRowR_keep h1 fun g hg => hb g (h4 g (by simp [hg])) (ownsRow_lt h1 hg), h2.keep fun g hg => hb g (h4 g (by simp [hg])) (h2.lt g hg), h3, h4⟩
theorem OwnL.one {w : World} {lo : Nat} {v : Value} {ts : List RT} (h : OwnL w lo v ts) : v.oneCell' = true ∧ v.cells = #[v] := by
  obtain ⟨xs, bs, h1, _⟩ := h
  rcases h1.2 with ⟨rfl, h0⟩ | ⟨g, cap, cur, rfl, _⟩ <;> exact ⟨rfl, rfl⟩
theorem OwnT.one {w : World} {lo : Nat} {t : RT} {cs : List Value} (h : OwnT w lo t cs) : ∀ u ∈ cs, u.oneCell' = true := by
  obtain ⟨bs, h1, _⟩ := h
  obtain ⟨_, _, _, _, _, h⟩ := h1.four
  exact h
theorem cell_of {w : World} {p i : Nat} {cs : Array Value} {T : TypeId} {z : Nat × Nat} {v : Value} (h : w.heap[p]? = some (.cells cs T z)) (hi : cs[i]? = some v) : w.cell? ⟨p, i, none⟩ = some v := by
  unfold World.cell?
  rw [h]
  exact hi
theorem heap_set {w : World} {p : Nat} {cs : Array Value} {T : TypeId} {z : Nat × Nat} (h : w.heap[p]? = some (.cells cs T z)) (i : Nat) (u : Value) : (w.setCell ⟨p, i, none⟩ u).heap[p]? = some (.cells (cs.setIfInBounds i u) T z) := by
  simp [World.setCell, Array.getElem?_modify, h]
theorem grown_set (w : World) (p i : Nat) (u : Value) : w.grownBy (w.setCell ⟨p, i, none⟩ u) (some p) :=
  ⟨rfl, rfl, rfl, by simp [World.setCell], fun k _ hk => Below.heap_setCell w _ u k (fun e => hk (by rw [e]))⟩
theorem frozen_of {w : World} {p i : Nat} {cs : Array Value} {T : TypeId} (h : w.heap[p]? = some (.cells cs T (0, 0))) : w.frozen? ⟨p, i, none⟩ = false := by
  simp [World.frozen?, h]
theorem undrew {B : Nat} {w w' : World} (h : Below B w.drew w') : Below B w w' := ⟨h.os, h.tape, h.output, h.size, h.block⟩
/-- the results of a function whose first result is a reply in memory -/
theorem res_cell_tmp {fn : Func} {p u : Tmp} (h : fn.results = #[.cell p 31, .tmp u]) (tmps : Array Value) (w : World) (g : Nat) (T : TypeId) (c0 c1 c2 c3 : Value) (fr : Nat × Nat)
    (hp : tmps.getD p undef = .pointer (some ⟨g, 0, none⟩)) (hg : w.heap[g]? = some (.cells #[c0, c1, c2, c3] T fr)) :
    (results fn tmps).run Tryd.prog w = .ok (.tuple #[.agg #[c0, c1, c2, c3], tmps.getD u undef]) w := by
  obtain ⟨i0, hi, hz0, hz1, hz2⟩ := info_parts Tryd.info_rep
  rw [results_cell_tmp h, hp]
  simp only [asAddr]
  simp [run_loadVar_row w g T 31 _ fr _ hg Tryd.underlying31 rfl (by rw [hi]; simp [hz1])]
/-- the result of a function whose result is a reply in memory -/
theorem res_cell {fn : Func} {p : Tmp} (h : fn.results = #[.cell p 31]) (tmps : Array Value) (w : World) (g : Nat) (T : TypeId) (c0 c1 c2 c3 : Value) (fr : Nat × Nat)
    (hp : tmps.getD p undef = .pointer (some ⟨g, 0, none⟩)) (hg : w.heap[g]? = some (.cells #[c0, c1, c2, c3] T fr)) :
    (results fn tmps).run Tryd.prog w = .ok (.agg #[c0, c1, c2, c3]) w := by
  obtain ⟨i0, hi, hz0, hz1, hz2⟩ := info_parts Tryd.info_rep
  exact results_cell_row h tmps w g T _ fr _ hp hg Tryd.underlying31 rfl (by rw [hi]; simp [hz1])
theorem OwnL.val {w : World} {lo : Nat} {v : Value} {ts : List RT} (h : OwnL w lo v ts) : ∃ a cap, v = .slice a ts.length cap := by
  obtain ⟨xs, bs, h1, _⟩ := h
  rcases h1.2 with ⟨rfl, h0⟩ | ⟨g, cap, cur, rfl, _⟩
  · exact ⟨none, 0, by rw [h0]⟩
  · exact ⟨_, _, rfl⟩

/-- a store of a whole reply into a block of four cells -/
theorem wp_store4 {ops : Array Oper} {rest : List Oper} {op : Oper} {a : Act} {Q : Exit → Act → World → Prop} (w : World) (hgd : op.guard = none) (x y : Operand) (ho : op.op = .store 31 x y)
    (p : Nat) (T : TypeId) (cs : Array Value) (c0 c1 c2 c3 : Value) (h : w.heap[p]? = some (.cells cs T (0, 0))) (hcs : cs.size = 4) (hx : a.eval x = .pointer (some ⟨p, 0, none⟩)) (hy : a.eval y = .agg #[c0, c1, c2, c3]) (h1 : ∀ u ∈ [c0, c1, c2, c3], u.oneCell' = true)
    (hK : ∀ w', w'.heap[p]? = some (.cells #[c0, c1, c2, c3] T (0, 0)) → w'.heap.size = w.heap.size → w.grownBy w' (some p) → wpList Tryd.prog ops Q rest (a.put op.dst undef) w') : wpList Tryd.prog ops Q (op :: rest) a w := by
  refine wpList_plain hgd fun K hK' => ?_
  obtain ⟨i0, hi0, hz0, hz1, hz2⟩ := info_parts Tryd.info_rep
  have hst := run_storeCells_at Tryd.prog p 0 T [c0, c1, c2, c3] 0 _ w h (by simp; omega) h1
  have hrun : (Instr.storeAt 31 (.pointer (some ⟨p, 0, none⟩)) (.agg #[c0, c1, c2, c3])).run Tryd.prog w =
      .ok () (w.setRow p (cs.toList.take 0 ++ [c0, c1, c2, c3] ++ cs.toList.drop (0 + 4)).toArray) := by
    simp only [Nat.add_zero] at hst
    simp [Instr.storeAt, Instr.sureAddr, storeVar, sizeOf, typeInfo, hi0, hz1, Value.cells]
    simpa using hst
  unfold Oper.wp execOp
  simp only [ho, hx, hy, Sem.run_bind, Sem.run_pure, Result.andThen_ok, hrun]
  refine hK' _ _ (hK _ ?_ (by simp [World.setRow]) ⟨rfl, rfl, rfl, by simp [World.setRow], fun k _ hk => setRow_other w p k _ (fun e => hk (by rw [e]))⟩)
  rw [setRow_heap w p _ _ _ _ h]
  congr 2
  apply Array.ext'
  have : cs.toList.drop 4 = [] := List.drop_eq_nil_iff.2 (by simp [hcs])
  simp [this]

/-- 'append(l, x)': one more reply, which was made behind the row -/
theorem run_appR (w : World) (ty : TypeId) (w0 w1 : World) (lo : Nat) (v : Value) (ts : List RT) (h : OwnL w0 lo v ts) (t : RT) (cs : List Value) (ht : OwnT w1 w0.heap.size t cs)
    (hw : w = w1.alloc (.cells cs.toArray 31)) (hb : Below w0.heap.size w0 w1) (hl : ts.length < 1073741824) (hlo : lo ≤ w0.heap.size) :
    ∃ v' w', (Builtin.append_ #[29, 29] ty #[v, .slice (some ⟨w1.heap.size, 0, none⟩) 1 1]).run Tryd.prog w = .ok v' w' ∧ OwnL w' lo v' (ts ++ [t]) ∧ Below lo w1 w' ∧ w.grownBy w' v.ownBlock := by
  obtain ⟨i0, hi, hz0, hz1, hz2⟩ := info_parts Tryd.info_rep
  have hb1 : Below w1.heap.size w1 w := by rw [hw]; exact (Below.refl _ _).alloc (Nat.le_refl _) _
  have hs : w.heap.size = w1.heap.size + 1 := by rw [hw]; simp
  obtain ⟨xs0, bs0, g1, g2, g3, g4⟩ := h
  obtain ⟨bt, t1, t2, t3⟩ := ht
  obtain ⟨c0, c1, c2, c3, rfl, hone⟩ := t1.four
  have k1 := ownsRowR_keep g1 (w' := w) fun g hg => (hb.trans (hb1.mono hb.size)).block g (ownsRow_lt g1 hg)
  have k2 := g2.keep (w' := w) fun g hg => (hb.trans (hb1.mono hb.size)).block g (g2.lt g hg)
  have kt := t1.keep (w' := w) fun g hg => hb1.block g (t1.lt g hg)
  obtain ⟨v', w', hr, r1, r2, _, r4⟩ := run_append_own_at (P := Tryd.prog) w 0 29 ty 31 i0 (.agg #[.int .i64 0, .string ⟨#[]⟩, .int .i64 0, .slice none 0 0]) 4 56 Tryd.underlying29 hi hz0 hz1 hz2 rfl (by decide) v ts.length xs0 k1 ⟨w1.heap.size, 0, none⟩ 1 1 [c0, c1, c2, c3] rfl
    (by
      intro j u hj
      have e : (⟨w1.heap.size, 0, none⟩ : Addr).add j = ⟨w1.heap.size, j, none⟩ := by unfold Addr.add; split <;> simp_all
      rw [e, hw, World.cell?_alloc_mark]
      simpa using hj) hone (by unfold maxLen; omega) (by omega) (Nat.zero_le _)
  have hlt : ∀ g ∈ v.ownBlock.toList ++ bs0, g < w0.heap.size := by
    intro g hg
    rcases List.mem_append.1 hg with hg | hg
    · exact ownsRow_lt g1 (by simpa using hg)
    · exact g2.lt g hg
  have hsz0 : w0.heap.size ≤ w1.heap.size := hb.size
  have far : ∀ g, g ∈ bs0 ++ bt → w'.heap[g]? = w.heap[g]? := by
    intro g hg
    have hgl : g < w.heap.size := by
      rcases List.mem_append.1 hg with hg | hg
      · exact k2.lt g hg
      · exact kt.lt g hg
    refine r2.block g hgl fun e => ?_
    have hv : g ∈ v.ownBlock.toList := by rw [← e]; simp
    rcases List.mem_append.1 hg with hg | hg
    · exact (List.nodup_append.1 g3).2.2 g hv g hg rfl
    · have := t3 g hg
      have := hlt g (by simp [hv])
      omega
  refine ⟨v', w', hr, ⟨xs0 ++ [c0, c1, c2, c3], bs0 ++ bt, by rw [List.length_append]; exact r1, (RowB.snoc kt k2).keep fun g hg => far g hg, ?_, ?_⟩, ?_, r2⟩
  · have hn : (bs0 ++ bt).Nodup := List.nodup_append.2 ⟨(List.nodup_append.1 g3).2.1, t2, fun a ha b hb' e => by
      have := hlt a (by simp [ha])
      have := t3 b hb'
      omega⟩
    refine List.nodup_append.2 ⟨by cases v'.ownBlock <;> simp, hn, fun a ha b hb' e => ?_⟩
    subst e
    rcases r4 with e | e
    · rw [e] at ha
      rcases List.mem_append.1 hb' with hb' | hb'
      · exact (List.nodup_append.1 g3).2.2 a ha a hb' rfl
      · have := hlt a (by simp [ha])
        have := t3 a hb'
        omega
    · rw [e] at ha
      simp at ha
      rcases List.mem_append.1 hb' with hb' | hb'
      · have := hlt a (by simp [hb'])
        omega
      · have := t1.lt a hb'
        omega
  · intro g hg
    rcases List.mem_append.1 hg with hg | hg
    · rcases r4 with e | e
      · rw [e] at hg
        exact g4 g (by simp [hg])
      · rw [e] at hg
        simp at hg
        omega
    · rcases List.mem_append.1 hg with hg | hg
      · exact g4 g (by simp [hg])
      · have := t3 g hg
        omega
  · exact (hb1.mono (by omega)).grown r2 (by omega) fun k hk => g4 k (by simp [hk])

theorem wp0_appR {o : Oper} {a : Act} {K : Act → World → Prop} {Q : Exit → Act → World → Prop} (w : World) (x y : Operand)
    (ho : o.op = .call { callee := .builtin .append, args := #[x, y], argTypes := #[29, 29] })
    (w0 w1 : World) (lo : Nat) (v : Value) (ts : List RT) (hx : a.eval x = v) (h : OwnL w0 lo v ts) (t : RT) (cs : List Value) (ht : OwnT w1 w0.heap.size t cs)
    (hy : a.eval y = .slice (some ⟨w1.heap.size, 0, none⟩) 1 1) (hw : w = w1.alloc (.cells cs.toArray 31)) (hb : Below w0.heap.size w0 w1) (hl : ts.length < 1073741824) (hlo : lo ≤ w0.heap.size)
    (hK : ∀ v' w', OwnL w' lo v' (ts ++ [t]) → Below lo w1 w' → w.grownBy w' v.ownBlock → K (a.put o.dst v') w') : o.wp Tryd.prog a w K Q := by
  obtain ⟨v', w', hr, h2, h3, h4⟩ := run_appR w o.type w0 w1 lo v ts h t cs ht hw hb hl hlo
  unfold Oper.wp execOp
  simp only [ho, resolve, invoke, builtin, Sem.run_bind, Sem.run_pure, Result.andThen_ok, List.map_toArray, List.map_cons, List.map_nil, hx, hy, hr]
  exact hK v' w' h2 h3 h4
/-- in a plain region -/
theorem wp_appR {ops : Array Oper} {rest : List Oper} {o : Oper} {a : Act} {Q : Exit → Act → World → Prop} (w : World) (hgd : o.guard = none) (x y : Operand)
    (ho : o.op = .call { callee := .builtin .append, args := #[x, y], argTypes := #[29, 29] })
    (w0 w1 : World) (lo : Nat) (v : Value) (ts : List RT) (hx : a.eval x = v) (h : OwnL w0 lo v ts) (t : RT) (cs : List Value) (ht : OwnT w1 w0.heap.size t cs)
    (hy : a.eval y = .slice (some ⟨w1.heap.size, 0, none⟩) 1 1) (hw : w = w1.alloc (.cells cs.toArray 31)) (hb : Below w0.heap.size w0 w1) (hl : ts.length < 1073741824) (hlo : lo ≤ w0.heap.size)
    (hK : ∀ v' w', OwnL w' lo v' (ts ++ [t]) → Below lo w1 w' → wpList Tryd.prog ops Q rest (a.put o.dst v') w') :
    wpList Tryd.prog ops Q (o :: rest) a w :=
  wpList_plain hgd fun _ hK' => wp0_appR w x y ho w0 w1 lo v ts hx h t cs ht hy hw hb hl hlo fun v' w' h2 h3 _ => hK' _ _ (hK v' w' h2 h3)
/-- in a region that draws its order -/
theorem step_appR {ops : Array Oper} {o : Oper} {a : Act} {K : Act → World → Prop} {Q : Exit → Act → World → Prop} {E : Prop} (w : World) (hgd : o.guard = none) (x y : Operand)
    (ho : o.op = .call { callee := .builtin .append, args := #[x, y], argTypes := #[29, 29] })
    (w0 w1 : World) (lo : Nat) (v : Value) (ts : List RT) (hx : a.eval x = v) (h : OwnL w0 lo v ts) (t : RT) (cs : List Value) (ht : OwnT w1 w0.heap.size t cs)
    (hy : a.eval y = .slice (some ⟨w1.heap.size, 0, none⟩) 1 1) (hw : w = w1.alloc (.cells cs.toArray 31)) (hb : Below w0.heap.size w0 w1) (hl : ts.length < 1073741824) (hlo : lo ≤ w0.heap.size)
    (hK : ∀ v' w', OwnL w' lo v' (ts ++ [t]) → Below lo w1 w' → w.grownBy w' v.ownBlock → K (a.put o.dst v') w') :
    if Region.wanted o (yielded ops a.tmps) = true then Oper.wp Tryd.prog o a w K Q else E := by
  have hwd : Region.wanted o (yielded ops a.tmps) = true := by simp [Region.wanted, hgd]
  rw [if_pos hwd]
  exact wp0_appR w x y ho w0 w1 lo v ts hx h t cs ht hy hw hb hl hlo hK
end Mm
end Go.Proofs.YtakldjdohgmeiaaDoor

namespace Go.Proofs.YtakldjdohgmeiaaDoor
open Go.RowKit
set_option maxRecDepth 20000

namespace Mm
open Pl
/-- a row of n elements in a block from lo on, whatever it holds -/
def ShR (w : World) (lo : Nat) (e : TypeId) (z : Nat) (v : Value) (n : Nat) : Prop :=
  (v = .slice none 0 0 ∧ n = 0) ∨ ∃ g cap cur, v = .slice (some ⟨g, 0, none⟩) n cap ∧ lo ≤ g ∧ w.heap[g]? = some (.cells cur e (0, 0)) ∧ n ≤ cap ∧ cap ≤ maxLen ∧ cur.size = cap * z
theorem ShR.of_own {w : World} {lo : Nat} {e : TypeId} {z : Nat} {v : Value} {n : Nat} {xs : List Value} (h : w.ownsRow lo e z v n xs) : ShR w lo e z v n := by
  rcases h.2 with h0 | ⟨g, cap, cur, h1, h2, h3, h4, h5, h6, _⟩
  · exact .inl h0
  · exact .inr ⟨g, cap, cur, h1, h2, h3, h4, h5, h6⟩
theorem ShR.own {w : World} {lo : Nat} {e : TypeId} {z : Nat} {v : Value} {n : Nat} (h : ShR w lo e z v n) : ∃ xs, w.ownsRow lo e z v n xs := by
  rcases h with ⟨h0, rfl⟩ | ⟨g, cap, cur, h1, h2, h3, h4, h5, h6⟩
  · exact ⟨[], by simp, .inl ⟨h0, rfl⟩⟩
  · refine ⟨cur.toList.take (n * z), ?_, .inr ⟨g, cap, cur, h1, h2, h3, h4, h5, h6, rfl⟩⟩
    rw [List.length_take, Array.length_toList, h6]
    exact Nat.min_eq_left (Nat.mul_le_mul_right _ h4)
/-- blocks of rows keep their size -/
def Shp (e : TypeId) (w w' : World) : Prop := ∀ (g : Nat) (cur : Array Value), w.heap[g]? = some (Obj.cells cur e (0, 0)) → ∃ cur' : Array Value, w'.heap[g]? = some (Obj.cells cur' e (0, 0)) ∧ cur'.size = cur.size
theorem Shp.refl (e : TypeId) (w : World) : Shp e w w := fun _ cur h => ⟨cur, h, rfl⟩
theorem Shp.trans {e : TypeId} {a b c : World} (h : Shp e a b) (k : Shp e b c) : Shp e a c := fun g cur hg => by
  obtain ⟨c1, h1, s1⟩ := h g cur hg
  obtain ⟨c2, h2, s2⟩ := k g c1 h1
  exact ⟨c2, h2, s2.trans s1⟩
theorem Shp.below {e : TypeId} {w w' : World} (h : Below w.heap.size w w') : Shp e w w' := fun g cur hg => ⟨cur, (h.block g (Array.getElem?_eq_some_iff.1 hg).1).trans hg, rfl⟩
theorem Shp.store {e : TypeId} {w w' : World} {p : Nat} {cs cs' : Array Value} {T : TypeId} (h : w.heap[p]? = some (.cells cs T (0, 0))) (h' : w'.heap[p]? = some (.cells cs' T (0, 0))) (hs : cs'.size = cs.size) (hg : w.grownBy w' (some p)) : Shp e w w' := fun g cur hcur => by
  by_cases hp : g = p
  · subst hp
    rw [h] at hcur
    injection hcur with hcur
    injection hcur with e1 e2 _
    subst e1
    subst e2
    exact ⟨cs', h', hs⟩
  · exact ⟨cur, (hg.block g (Array.getElem?_eq_some_iff.1 hcur).1 (fun e => hp (by injection e))).trans hcur, rfl⟩
theorem ShR.shp {w w' : World} {lo : Nat} {e : TypeId} {z : Nat} {v : Value} {n : Nat} (h : ShR w lo e z v n) (hs : Shp e w w') : ShR w' lo e z v n := by
  rcases h with h0 | ⟨g, cap, cur, h1, h2, h3, h4, h5, h6⟩
  · exact .inl h0
  · obtain ⟨cur', a1, a2⟩ := hs g cur h3
    exact .inr ⟨g, cap, cur', h1, h2, a1, h4, h5, a2.trans h6⟩
theorem ShR.lt {w : World} {lo : Nat} {e : TypeId} {z : Nat} {v : Value} {n : Nat} (h : ShR w lo e z v n) {g : Nat} (hg : v.ownBlock = some g) : lo ≤ g ∧ g < w.heap.size := by
  rcases h with ⟨rfl, _⟩ | ⟨g', cap, cur, rfl, h2, h3, _⟩
  · cases hg
  · injection hg with hg
    subst hg
    exact ⟨h2, (Array.getElem?_eq_some_iff.1 h3).1⟩
/-- a step that writes into one row, or into what is new -/
theorem grown_step {w a b : World} {row : Option Nat} {k : Option Nat} (h : w.grownBy a row) (hk : a.grownBy b k) (hr : ∀ g, k = some g → some g = row ∨ w.heap.size ≤ g) : w.grownBy b row :=
  ⟨hk.os.trans h.os, hk.tape.trans h.tape, hk.output.trans h.output, Nat.le_trans h.size hk.size, fun g hg hne => (hk.block g (Nat.lt_of_lt_of_le hg h.size) (fun e => by
    rcases hr g e.symm with h1 | h1
    · exact hne h1
    · omega)).trans (h.block g hg hne)⟩
theorem grown_below {w a : World} {row : Option Nat} (h : Below w.heap.size w a) : w.grownBy a row := ⟨h.os, h.tape, h.output, h.size, fun g hg _ => h.block g hg⟩

theorem run_append_sh (w : World) (lo : Nat) (t ty e : TypeId) (i : TypeInfo) (z : Value) (size bytes : Nat) (ht : Tryd.prog.underlying t = some (.slice e)) (hi : Tryd.prog.info? e = some i) (hz : i.zero = some z)
    (hsize : i.size = size) (hby : i.bytes = bytes) (hzs : z.cells.size = size) (hsz : 0 < size) (v : Value) (n : Nat) (hown : ShR w lo e size v n)
    (a : Addr) (m c : Nat) (news : List Value) (hl : news.length = m * size) (hnews : ∀ j u, news[j]? = some u → w.cell? (a.add j) = some u) (h1 : ∀ u ∈ news, u.oneCell' = true)
    (h63 : n + m ≤ maxLen) (hbytes : (n + m) * bytes ≤ 140737488355328) (hbase : lo ≤ w.heap.size) :
    ∃ v' w', (Builtin.append_ #[t, t] ty #[v, .slice (some a) m c]).run Tryd.prog w = .ok v' w' ∧ ShR w' lo e size v' (n + m) ∧ w.grownBy w' v.ownBlock ∧ (v'.ownBlock = v.ownBlock ∨ v'.ownBlock = some w.heap.size) ∧ Shp e w w' := by
  obtain ⟨xs, hx⟩ := hown.own
  obtain ⟨v1, w1, hr1, o1, g1, _, at1⟩ := run_append_own_at (P := Tryd.prog) w lo t ty e i z size bytes ht hi hz hsize hby hzs hsz v n xs hx a m c news hl hnews h1 h63 hbytes hbase
  refine ⟨v1, w1, hr1, .of_own o1, g1, at1, ?_⟩
  rcases hown with ⟨rfl, rfl⟩ | ⟨g, cap, cur, rfl, hlo, hg, hn, hc, hs⟩
  · exact fun g cur hg => ⟨cur, (g1.block g (Array.getElem?_eq_some_iff.1 hg).1 (fun e => by cases e)).trans hg, rfl⟩
  · by_cases hroom : n + m ≤ cap
    · obtain ⟨w2, hr2, o2, g2⟩ := run_append_own_spare (P := Tryd.prog) w lo t ty e i size ht hi hsize g n cap xs hx a m c news hl hnews h1 hroom
      rw [hr1] at hr2
      injection hr2 with hv hw
      subst hw
      rcases o2.2 with ⟨h0, _⟩ | ⟨g', cap', cur', hv', _, hg', _, _, hs', _⟩
      · cases h0
      · injection hv' with a1 a2 a3
        injection a1 with a1
        injection a1 with a1
        subst a1
        subst a3
        exact Shp.store hg hg' (hs'.trans hs.symm) g2
    · have holds : ∀ j u, xs[j]? = some u → w.cell? ((⟨g, 0, none⟩ : Addr).add j) = some u := hx.cells (g := g) rfl
      subst hsize
      subst hby
      have hsmall : n + m ≤ 9223372036854775807 := by simp only [maxLen] at h63; omega
      have hr := run_append_grow (P := Tryd.prog) w t ty e i z ht hi hz ⟨g, 0, none⟩ n cap xs hx.1 holds a m c news hl hnews (by omega) (by omega) (growslice_fits (by omega) hbytes)
      rw [hr1] at hr
      injection hr with hv hw
      rw [hw]
      exact Shp.below (((Below.refl _ _).drew).alloc (Nat.le_refl _) _)

/-- 'append(g, c)', c a byte -/
theorem wp_app1Sh {ops : Array Oper} {rest : List Oper} {o : Oper} {a : Act} {Q : Exit → Act → World → Prop} (w : World) (hgd : o.guard = none) (x y : Operand)
    (ho : o.op = .call { callee := .builtin .append, args := #[x, y], argTypes := #[24, 24] })
    (lo : Nat) (v : Value) (n : Nat) (c : Int) (hx : a.eval x = v) (hy : a.eval y = .slice (some ⟨w.heap.size, 0, none⟩) 1 1) (h : ShR w lo 5 1 v n) (hl : n < 140737488355328) (hlo : lo ≤ w.heap.size)
    (hK : ∀ v' w', ShR w' lo 5 1 v' (n + 1) → w.grownBy w' v.ownBlock → (v'.ownBlock = v.ownBlock ∨ ∃ k, v'.ownBlock = some k ∧ w.heap.size ≤ k) → Shp 5 w w' → wpList Tryd.prog ops Q rest (a.put o.dst v') w') :
    wpList Tryd.prog ops Q (o :: rest) a (w.alloc (.cells #[.int .u8 c] 5)) := by
  obtain ⟨i0, hi, hz0, hz1, hz2⟩ := info_parts Tryd.info_u8
  have hb : Below w.heap.size w (w.alloc (.cells #[.int .u8 c] 5)) := (Below.refl _ _).alloc (Nat.le_refl _) _
  obtain ⟨v', w', hr, h1, h2, h3, h4⟩ := run_append_sh (w.alloc (.cells #[.int .u8 c] 5)) lo 24 o.type 5 i0 (.int .u8 0) 1 1 Tryd.underlying24 hi hz0 hz1 hz2 rfl (by decide) v n (h.shp (Shp.below hb)) ⟨w.heap.size, 0, none⟩ 1 1 [.int .u8 c] rfl (cell_one_new _ _ _)
    (by intro u hu; simp at hu; subst hu; rfl) (by unfold maxLen; omega) (by omega) (by simp; omega)
  refine wpList_plain hgd fun K hK' => ?_
  unfold Oper.wp execOp
  simp only [ho, resolve, invoke, builtin, Sem.run_bind, Sem.run_pure, Result.andThen_ok, List.map_toArray, List.map_cons, List.map_nil, hx, hy, hr]
  refine hK' _ _ (hK v' w' h1 ?_ ?_ ((Shp.below hb).trans h4))
  · refine ⟨h2.os, h2.tape, h2.output, Nat.le_trans hb.size h2.size, fun k hk hne => (h2.block k (Nat.lt_of_lt_of_le hk hb.size) hne).trans (hb.block k hk)⟩
  · rcases h3 with h3 | h3
    · exact .inl h3
    · exact .inr ⟨_, h3, hb.size⟩

/-- 'append(g, m...)', m bytes of a block -/
theorem wp_appMSh {ops : Array Oper} {rest : List Oper} {o : Oper} {a : Act} {Q : Exit → Act → World → Prop} (w : World) (hgd : o.guard = none) (x y : Operand)
    (ho : o.op = .call { callee := .builtin .append, args := #[x, y], argTypes := #[24, 24] })
    (lo : Nat) (v : Value) (n : Nat) (g c : Nat) (m : List UInt8) (k : Nat) (hk : m.length = k) (hx : a.eval x = v) (hy : a.eval y = .slice (some ⟨g, 0, none⟩) k c) (h : ShR w lo 5 1 v n) (hm : BlkB w g m) (hl : n + m.length < 140737488355328) (hlo : lo ≤ w.heap.size)
    (hK : ∀ v' w', ShR w' lo 5 1 v' (n + m.length) → w.grownBy w' v.ownBlock → (v'.ownBlock = v.ownBlock ∨ v'.ownBlock = some w.heap.size) → Shp 5 w w' → wpList Tryd.prog ops Q rest (a.put o.dst v') w') :
    wpList Tryd.prog ops Q (o :: rest) a w := by
  subst hk
  obtain ⟨i0, hi, hz0, hz1, hz2⟩ := info_parts Tryd.info_u8
  obtain ⟨v', w', hr, h1, h2, h3, h4⟩ := run_append_sh w lo 24 o.type 5 i0 (.int .u8 0) 1 1 Tryd.underlying24 hi hz0 hz1 hz2 rfl (by decide) v n h ⟨g, 0, none⟩ m.length c (bytesV m) (by simp [bytesV])
    (by
      intro j u hj
      have e : (⟨g, 0, none⟩ : Addr).add j = ⟨g, j, none⟩ := by unfold Addr.add; split <;> simp_all
      have hjl : j < m.length := by have := (List.getElem?_eq_some_iff.1 hj).1; rwa [bytesV_length] at this
      rw [e, hm.cell j hjl]
      rw [← hj]
      simp [bytesV, byteV, at_, List.getElem?_eq_getElem hjl, List.getD_eq_getElem?_getD])
    (bytesV_one m) (by unfold maxLen; omega) (by omega) hlo
  refine wpList_plain hgd fun K hK' => ?_
  unfold Oper.wp execOp
  simp only [ho, resolve, invoke, builtin, Sem.run_bind, Sem.run_pure, Result.andThen_ok, List.map_toArray, List.map_cons, List.map_nil, hx, hy, hr]
  exact hK' _ _ (hK v' w' h1 h2 h3 h4)

/-- 'v[i] = c' -/
theorem wp_storeSh {ops : Array Oper} {rest : List Oper} {op : Oper} {a : Act} {Q : Exit → Act → World → Prop} (w : World) (hgd : op.guard = none) (x y : Operand) (ho : op.op = .store 5 x y)
    (lo g i n cap : Nat) (c : Int) (h : ShR w lo 5 1 (.slice (some ⟨g, 0, none⟩) n cap) n) (hx : a.eval x = .pointer (some ⟨g, i, none⟩)) (hy : a.eval y = .int .u8 c) (hi : i < n)
    (hK : ∀ w', w'.heap.size = w.heap.size → w.grownBy w' (some g) → Shp 5 w w' → wpList Tryd.prog ops Q rest (a.put op.dst undef) w') : wpList Tryd.prog ops Q (op :: rest) a w := by
  rcases h with ⟨h0, _⟩ | ⟨g', cap', cur, hv, hlo, hg, hn, hc, hs⟩
  · cases h0
  · injection hv with a1 a2 a3
    injection a1 with a1
    injection a1 with a1
    subst a1
    subst a3
    refine wp_storeF w hgd 5 x y ho (by kernel_rfl) g i 5 cur (.int .u8 c) hg hx hy (by omega) rfl rfl ?_
    intro w' h1 h2 h3
    exact hK w' h2 h3 (Shp.store hg h1 (by simp) h3)
end Mm
end Go.Proofs.YtakldjdohgmeiaaDoor

namespace Go.Proofs.YtakldjdohgmeiaaDoor
open Go.RowKit
set_option maxRecDepth 20000

namespace Mm
open Pl
/-- a slice of bytes that can be read -/
def BytesR (w : World) (v : Value) (l : List UInt8) : Prop :=
  ∃ p c, v = .slice p l.length c ∧ (l.length = 0 ∨ ∃ g o, p = some ⟨g, o, none⟩ ∧ g < w.heap.size ∧ BytesAt w g o l)
theorem BytesR.below {w w' : World} {v : Value} {l : List UInt8} (h : BytesR w v l) (hb : Below w.heap.size w w') : BytesR w' v l := by
  obtain ⟨p, c, hv, h0 | ⟨g, o, hp, hg, hm⟩⟩ := h
  · exact ⟨p, c, hv, .inl h0⟩
  · exact ⟨p, c, hv, .inr ⟨g, o, hp, Nat.lt_of_lt_of_le hg hb.size, hm.keep (hb.block g hg)⟩⟩
theorem OwnB.bytesR {w : World} {b : Nat} {v : Value} {l : List UInt8} (h : OwnB w b v l) : BytesR w v l := by
  obtain ⟨a, c, rfl, h0 | ⟨g, rfl, _, hg, _⟩⟩ := h.val
  · exact ⟨_, _, rfl, .inl h0.1⟩
  · exact ⟨_, _, rfl, .inr ⟨g, 0, rfl, hg, h.bytesAt⟩⟩
end Mm

/-- the same bytes are told to be the same -/
theorem same16_eq (va vb : Value) (l : List UInt8) (w : World) (hl : l.length ≤ 9223372036854775807) (ha : Mm.BytesR w va l) (hb : Mm.BytesR w vb l) :
    Calls Tryd.prog 14 #[va, vb] w fun e w' => e = .returned (.bool true) ∧ Below w.heap.size w w' := by
  obtain ⟨pa, ca, rfl, ha⟩ := ha
  obtain ⟨pb, cb, rfl, hb⟩ := hb
  obtain ⟨n, hn⟩ : ∃ n, n = l.length := ⟨_, rfl⟩
  rw [← hn] at ha hb hl ⊢
  have HA := Pl.hid ha
  have HB := Pl.hid hb
  have HN := Pl.hid hn
  clear ha hb hn
  go_enter Tryd.func14, Tryd.ntmps14
  go_wp2_with fail
  go_loopw [13] (fun iv wr => ∃ i : Nat, iv = .int .i64 i ∧ i ≤ n ∧ Hid (Below w.heap.size w wr)) (fun iv _ => n - (intOf iv).toNat)
  case atStart => exact ⟨0, rfl, Nat.zero_le _, Below.refl _ _⟩
  case round =>
    obtain ⟨i, rfl, hi, HR⟩ := hrel
    rcases Nat.lt_or_ge i n with hlt | hge
    · rcases HA.out with h0 | ⟨g, o, rfl, hg, hm⟩
      · omega
      rcases HB.out with h0 | ⟨g', o', rfl, hg', hm'⟩
      · omega
      have hc := (HR.out.cell (p := ⟨g, o + i, none⟩) hg).trans (hm i (by rw [← HN.out]; exact hlt))
      have hc' := (HR.out.cell (p := ⟨g', o' + i, none⟩) hg').trans (hm' i (by rw [← HN.out]; exact hlt))
      have HX := Pl.hid hm
      have HX' := Pl.hid hm'
      clear hm hm'
      go_wp2_with fail
      go_quiet (fail)
      go_wp2_with fail
      go_roundw
      case rel => exact ⟨i + 1, by go_num, by omega, HR.out.trans (Mm.below_drewN _ _)⟩
      case measure => simp [intOf]; omega
    · go_wp2_with fail
      go_ret
      exact ⟨rfl, HR.out⟩

/-- what spoil touches: the row's block, and what is new -/
theorem Mm.ShR.slice {w : World} {lo : Nat} {e : TypeId} {z : Nat} {v : Value} {n : Nat} (h : Mm.ShR w lo e z v n) (hn : 0 < n) : ∃ g c, v = .slice (some ⟨g, 0, none⟩) n c ∧ v.ownBlock = some g := by
  rcases h with ⟨rfl, rfl⟩ | ⟨g, cap, cur, rfl, _⟩
  · omega
  · exact ⟨g, cap, rfl, rfl⟩

theorem Mm.grown_low {w a b : World} {row : Option Nat} {B : Nat} (h : w.grownBy a row) (hb : Below B a b) (hB : w.heap.size ≤ B) : w.grownBy b row :=
  ⟨hb.os.trans h.os, hb.tape.trans h.tape, hb.output.trans h.output, Nat.le_trans h.size hb.size, fun g hg hne => (hb.block g (Nat.lt_of_lt_of_le hg hB)).trans (h.block g hg hne)⟩
theorem Mm.ShR.low {w w' : World} {lo : Nat} {e : TypeId} {z : Nat} {v : Value} {n : Nat} {B : Nat} (h : Mm.ShR w lo e z v n) (hb : Below B w w') (hv : ∀ k, v.ownBlock = some k → k < B) : Mm.ShR w' lo e z v n := by
  rcases h with h0 | ⟨g, cap, cur, rfl, h2, h3, h4, h5, h6⟩
  · exact .inl h0
  · exact .inr ⟨g, cap, cur, rfl, h2, (hb.block g (hv g rfl)).trans h3, h4, h5, h6⟩

set_option maxHeartbeats 4000000 in
theorem spoil_walk (lo : Nat) (v : Value) (n : Nat) (w : World) (hn : n ≤ 1099511627776) (hv : Mm.ShR w lo 5 1 v n) (hlo : lo ≤ w.heap.size) :
    Calls Tryd.prog 22 #[v] w fun e w' => (∃ u, e = .returned u) ∧ w.grownBy w' v.ownBlock := by
  obtain ⟨va, vc, hvv, hva⟩ : ∃ a c, v = .slice a n c ∧ (n = 0 ∨ ∃ g, a = some ⟨g, 0, none⟩ ∧ v.ownBlock = some g) := by
    rcases hv with ⟨rfl, rfl⟩ | ⟨g, cap, cur, rfl, _⟩
    · exact ⟨none, 0, rfl, .inl rfl⟩
    · exact ⟨_, _, rfl, .inr ⟨g, rfl, rfl⟩⟩
  have HV := Pl.hid hv
  have HVA := Pl.hid hva
  have HLO := Pl.hid hlo
  obtain ⟨row, hrow⟩ : ∃ row, row = v.ownBlock := ⟨_, rfl⟩
  have HROW := Pl.hid hrow
  rw [← hrow] at HVA ⊢
  subst hvv
  clear hv hva hlo hrow
  go_enter Tryd.func22, Tryd.ntmps22
  go_wp2_with fail
  go_loopw [8] (fun iv wr => ∃ i : Nat, iv = .int .i64 i ∧ i ≤ n ∧ Hid (w.grownBy wr row) ∧ Hid (Mm.ShR wr lo 5 1 (.slice va n vc) n)) (fun iv _ => n - (intOf iv).toNat)
  case atStart => exact ⟨0, rfl, Nat.zero_le _, Mm.grown_below (Below.refl _ _), HV.out⟩
  case round =>
    obtain ⟨i, rfl, hi, HG, HS⟩ := hrel
    rcases Nat.lt_or_ge i n with hlt | hge
    · rcases HVA.out with h0 | ⟨g, rfl, hrow⟩
      · omega
      have HROW2 := Pl.hid hrow
      clear hrow
      go_wp2_with (refine Mm.wp_storeSh wr rfl _ _ rfl lo g i n vc 90 HS.out (by rfl) (by rfl) hlt ?_; intro w2 hs2 hg2 hp2; have HS2 := Pl.hid (HS.out.shp hp2); have HG2 := Pl.hid (Mm.grown_step HG.out hg2 (fun k hk => .inl (by rw [HROW2.out, hk]))); clear hs2 hg2 hp2)
      exact ⟨⟨i + 1, by go_num, hlt, HG2.out, HS2.out⟩, by simp [intOf]; omega⟩
    · have HWR : Hid (w.heap.size ≤ wr.heap.size ∧ lo ≤ wr.heap.size) := ⟨HG.out.size, Nat.le_trans HLO.out HG.out.size⟩
      have hd9 : decide (i < n) = false := decide_eq_false (by omega)
      go_wp2_with fail
      clear hd9
      go_loopw [3, 16] (fun vv jv wr => ∃ (j : Nat), jv = .int .i64 j ∧ j ≤ 20 ∧ Hid (w.grownBy wr row) ∧ Hid (Mm.ShR wr lo 5 1 (.slice va n vc) n) ∧ Hid (Mm.ShR wr lo 5 1 vv (n + j)) ∧ Hid (∀ k, vv.ownBlock = some k → some k = row ∨ w.heap.size ≤ k)) (fun _ jv _ => 20 - (intOf jv).toNat)
      case atStart => exact ⟨0, rfl, Nat.zero_le _, HG.out, HS.out, HS.out, fun k hk => .inl (by rw [HROW.out, hk])⟩
      case round =>
        obtain ⟨j, rfl, hj, HG3, HS3, HV3, HO3⟩ := hrel
        have HLO3 : Hid (lo ≤ wr.heap.size ∧ w.heap.size ≤ wr.heap.size ∧ n + j < 140737488355328) := ⟨Nat.le_trans HLO.out HG3.out.size, HG3.out.size, by omega⟩
        rcases Nat.lt_or_ge j 20 with hlt | hge2
        · go_wp2_with (at_builtin; refine Mm.wp_app1Sh wr rfl _ _ (by rfl) lo u3 (n + j) 91 (by rfl) (by rfl) HV3.out HLO3.out.2.2 HLO3.out.1 ?_; intro v4 w4 hs4 hg4 hb4 hp4; have HS4 := Pl.hid hs4; have HP4 := Pl.hid (HS3.out.shp hp4); have HG4 := Pl.hid (Mm.grown_step HG3.out hg4 HO3.out); have HO4 : Hid (∀ k, v4.ownBlock = some k → some k = row ∨ w.heap.size ≤ k) := (fun k hk => by
              rcases hb4 with hb4 | ⟨k', hb4, hk'⟩
              · exact HO3.out k (hb4 ▸ hk)
              · rw [hb4] at hk; injection hk with hk; exact .inr (by have := HLO3.out.2.1; omega)); clear hs4 hg4 hb4 hp4)
          go_roundw
          case rel => exact ⟨j + 1, by go_num, hlt, HG4.out, HP4.out, HS4.out, HO4.out⟩
          case measure => simp [intOf]; omega
        · obtain rfl : j = 20 := by omega
          go_wp2_with (refine Mm.wp_makeN wr rfl _ _ rfl 70 (by rfl) (by rfl) (by decide) (by decide) ?_; intro wm hm1 hm2 hm3; have HM1 := Pl.hid hm1; have HM2 := Pl.hid hm2; have HM3 := Pl.hid hm3; clear hm1 hm2 hm3)
          obtain ⟨gm, hgm⟩ : ∃ gm, gm = wr.heap.size := ⟨_, rfl⟩
          rw [← hgm] at HM1 HM2 HM3
          rw [← hgm]
          have HGM := Pl.hid hgm
          have HG5 : Hid (w.grownBy wm row) := Mm.grown_step HG3.out (Mm.grown_below (row := none) (by rw [← HGM.out]; exact HM3.out)) (fun k hk => by cases hk)
          have HS5 : Hid (Mm.ShR wm lo 5 1 (.slice va n vc) n) := HS3.out.shp (Mm.Shp.below (by rw [← HGM.out]; exact HM3.out))
          have HGM7 : Hid (w.heap.size ≤ gm) := by have := HG3.out.size; show _ ≤ _; rw [HGM.out]; exact this
          have HLT5 : Hid (∀ k, (Value.slice va n vc).ownBlock = some k → k < gm) := (fun k hk => by rw [HGM.out]; exact (HS3.out.lt hk).2)
          clear hgm
          go_loopw [25] (fun kv wr => ∃ (k : Nat) (m : List UInt8), kv = .int .i64 k ∧ k ≤ 70 ∧ m.length = 70 ∧ Hid (Mm.BlkB wr gm m) ∧ Hid (w.grownBy wr row) ∧ Hid (Mm.ShR wr lo 5 1 (.slice va n vc) n)) (fun kv _ => 70 - (intOf kv).toNat)
          case atStart => exact ⟨0, _, rfl, Nat.zero_le _, by decide, HM1.out, HG5.out, HS5.out⟩
          case round =>
            obtain ⟨k, m, rfl, hk, hm, HB6, HG6, HS6⟩ := hrel
            have HML := Pl.hid hm
            clear hm
            have HLO6 : Hid (lo ≤ wr.heap.size ∧ n + 70 < 140737488355328) := ⟨Nat.le_trans HLO.out HG6.out.size, by omega⟩
            rcases Nat.lt_or_ge k 70 with hlt | hge3
            · go_wp2_with (refine Mm.wp_storeB wr rfl _ _ rfl gm k m 92 HB6.out (by rfl) (by rfl) (by decide) (by decide) (by rw [HML.out]; exact hlt) ?_; intro w7 hb7 hs7 hl7; have HB7 := Pl.hid hb7; have HG7 := Pl.hid (Mm.grown_low HG6.out (hl7 gm (Nat.le_refl _)) HGM7.out); have HS7 := Pl.hid (HS6.out.low (hl7 gm (Nat.le_refl _)) HLT5.out); clear hb7 hs7 hl7)
              exact ⟨⟨k + 1, _, by go_num, hlt, by rw [List.length_set]; exact HML.out, HB7.out, HG7.out, HS7.out⟩, by simp [intOf]; omega⟩
            · go_wp2_with (first
                | (at_builtin; refine Mm.wp_appMSh wr rfl _ _ (by rfl) lo (.slice va n vc) n gm 70 m 70 HML.out (by rfl) (by rfl) HS6.out HB6.out (by rw [HML.out]; exact HLO6.out.2) HLO6.out.1 ?_; intro v8 w8 hs8 hg8 hb8 hp8; rw [HML.out] at hs8; obtain ⟨g8, c8, rfl, ho8⟩ := hs8.slice (by omega); have HS8 := Pl.hid hs8; have HG8 := Pl.hid (Mm.grown_step HG6.out hg8 (fun k hk => .inl (by rw [HROW.out, hk]))); have HO8 : Hid (some g8 = row ∨ w.heap.size ≤ g8) := (by
                      show _ ∨ _
                      rw [ho8] at hb8
                      rcases hb8 with hb8 | hb8
                      · exact .inl (by rw [hb8, HROW.out])
                      · injection hb8 with hb8
                        exact .inr (by rw [hb8]; exact HG6.out.size)); clear hs8 hg8 hb8 hp8 ho8)
                | (refine Mm.wp_storeSh w8 rfl _ _ rfl lo g8 0 (n + 70) c8 93 HS8.out (by rfl) (by rfl) (by omega) ?_; intro w9 hs9 hg9 hp9; have HG9 := Pl.hid (Mm.grown_step HG8.out hg9 (fun k hk => by injection hk with hk; subst hk; exact HO8.out)); clear hs9 hg9 hp9))
              go_end0
              exact ⟨⟨_, rfl⟩, HG9.out⟩
end Go.Proofs.YtakldjdohgmeiaaDoor

namespace Go.Proofs.YtakldjdohgmeiaaDoor
open Go.RowKit
set_option maxRecDepth 20000

namespace Mm
open Pl
/-- nothing but the blocks of S, and what is new, is touched -/
structure Tch (w w' : World) (S : Nat → Prop) : Prop where
  os : w'.os = w.os
  tape : w'.tape = w.tape
  output : w'.output = w.output
  size : w.heap.size ≤ w'.heap.size
  block : ∀ g, g < w.heap.size → ¬ S g → w'.heap[g]? = w.heap[g]?
theorem Tch.refl (w : World) (S : Nat → Prop) : Tch w w S := ⟨rfl, rfl, rfl, Nat.le_refl _, fun _ _ _ => rfl⟩
theorem Tch.of_below {w w' : World} (h : Below w.heap.size w w') (S : Nat → Prop) : Tch w w' S := ⟨h.os, h.tape, h.output, h.size, fun g hg _ => h.block g hg⟩
theorem Tch.trans {a b c : World} {S S' : Nat → Prop} (h : Tch a b S) (k : Tch b c S') (hS : ∀ g, S' g → g < a.heap.size → S g) : Tch a c S :=
  ⟨k.os.trans h.os, k.tape.trans h.tape, k.output.trans h.output, Nat.le_trans h.size k.size, fun g hg hn => (k.block g (Nat.lt_of_lt_of_le hg h.size) (fun hs => hn (hS g hs hg))).trans (h.block g hg hn)⟩
theorem Tch.of_grown {w w' : World} {r : Option Nat} {S : Nat → Prop} (h : w.grownBy w' r) (hS : ∀ g, r = some g → g < w.heap.size → S g) : Tch w w' S :=
  ⟨h.os, h.tape, h.output, h.size, fun g hg hn => h.block g hg (fun e => hn (hS g e.symm hg))⟩
theorem Tch.below {w w' : World} {S : Nat → Prop} (h : Tch w w' S) {B : Nat} (hB : B ≤ w.heap.size) (hS : ∀ g, S g → B ≤ g) : Below B w w' :=
  ⟨h.os, h.tape, h.output, h.size, fun g hg => h.block g (Nat.lt_of_lt_of_le hg hB) (fun hs => absurd (hS g hs) (by omega))⟩
/-- a store of a whole reply into a block -/
theorem wp_store4At {ops : Array Oper} {rest : List Oper} {op : Oper} {a : Act} {Q : Exit → Act → World → Prop} (w : World) (hgd : op.guard = none) (x y : Operand) (ho : op.op = .store 31 x y)
    (p i : Nat) (T : TypeId) (cs : Array Value) (c0 c1 c2 c3 : Value) (h : w.heap[p]? = some (.cells cs T (0, 0))) (hcs : i + 4 ≤ cs.size) (hx : a.eval x = .pointer (some ⟨p, i, none⟩)) (hy : a.eval y = .agg #[c0, c1, c2, c3]) (h1 : ∀ u ∈ [c0, c1, c2, c3], u.oneCell' = true)
    (hK : ∀ w' cs', w'.heap[p]? = some (.cells cs' T (0, 0)) → cs'.size = cs.size → (∀ j, i + 4 ≤ j → cs'[j]? = cs[j]?) → w'.heap.size = w.heap.size → w.grownBy w' (some p) → wpList Tryd.prog ops Q rest (a.put op.dst undef) w') : wpList Tryd.prog ops Q (op :: rest) a w := by
  refine wpList_plain hgd fun K hK' => ?_
  obtain ⟨i0, hi0, hz0, hz1, hz2⟩ := info_parts Tryd.info_rep
  have hst := run_storeCells_at Tryd.prog p i T [c0, c1, c2, c3] 0 _ w h (by simp; omega) h1
  have hrun : (Instr.storeAt 31 (.pointer (some ⟨p, i, none⟩)) (.agg #[c0, c1, c2, c3])).run Tryd.prog w =
      .ok () (w.setRow p (cs.toList.take i ++ [c0, c1, c2, c3] ++ cs.toList.drop (i + 4)).toArray) := by
    simp only [Nat.add_zero] at hst
    simp [Instr.storeAt, Instr.sureAddr, storeVar, sizeOf, typeInfo, hi0, hz1, Value.cells]
    simpa using hst
  unfold Oper.wp execOp
  simp only [ho, hx, hy, Sem.run_bind, Sem.run_pure, Result.andThen_ok, hrun]
  refine hK' _ _ (hK _ _ (by rw [setRow_heap w p _ _ _ _ h]) ?_ ?_ (by simp [World.setRow]) ⟨rfl, rfl, rfl, by simp [World.setRow], fun k _ hk => setRow_other w p k _ (fun e => hk (by rw [e]))⟩)
  · simp
    omega
  · intro j hj
    have hl : (cs.toList.take i).length = i := by rw [List.length_take, Array.length_toList]; omega
    rw [List.getElem?_toArray, List.getElem?_append_right (by rw [List.length_append, hl]; simpa using hj), List.getElem?_drop, List.length_append, hl]
    rw [show i + 4 + (j - (i + [c0, c1, c2, c3].length)) = j by simp; omega]
    simp

/-- 'append(l, x)', x a reply -/
theorem wp_appRSh {ops : Array Oper} {rest : List Oper} {o : Oper} {a : Act} {Q : Exit → Act → World → Prop} (w : World) (hgd : o.guard = none) (x y : Operand)
    (ho : o.op = .call { callee := .builtin .append, args := #[x, y], argTypes := #[29, 29] })
    (lo : Nat) (v : Value) (n : Nat) (c0 c1 c2 c3 : Value) (h1 : ∀ u ∈ [c0, c1, c2, c3], u.oneCell' = true) (hx : a.eval x = v) (hy : a.eval y = .slice (some ⟨w.heap.size, 0, none⟩) 1 1) (h : ShR w lo 31 4 v n) (hl : n < 1099511627776) (hlo : lo ≤ w.heap.size)
    (hK : ∀ v' w', ShR w' lo 31 4 v' (n + 1) → w.grownBy w' v.ownBlock → (v'.ownBlock = v.ownBlock ∨ ∃ k, v'.ownBlock = some k ∧ w.heap.size ≤ k) → Shp 31 w w' → wpList Tryd.prog ops Q rest (a.put o.dst v') w') :
    wpList Tryd.prog ops Q (o :: rest) a (w.alloc (.cells #[c0, c1, c2, c3] 31)) := by
  obtain ⟨i0, hi, hz0, hz1, hz2⟩ := info_parts Tryd.info_rep
  have hb : Below w.heap.size w (w.alloc (.cells #[c0, c1, c2, c3] 31)) := (Below.refl _ _).alloc (Nat.le_refl _) _
  obtain ⟨v', w', hr, h1', h2, h3, h4⟩ := run_append_sh (w.alloc (.cells #[c0, c1, c2, c3] 31)) lo 29 o.type 31 i0 (.agg #[.int .i64 0, .string ⟨#[]⟩, .int .i64 0, .slice none 0 0]) 4 56 Tryd.underlying29 hi hz0 hz1 hz2 rfl (by decide) v n (h.shp (Shp.below hb)) ⟨w.heap.size, 0, none⟩ 1 1 [c0, c1, c2, c3] rfl
    (by
      intro j u hj
      have e : (⟨w.heap.size, 0, none⟩ : Addr).add j = ⟨w.heap.size, j, none⟩ := by unfold Addr.add; split <;> simp_all
      rw [e, World.cell?_alloc_mark]
      simpa using hj)
    h1 (by unfold maxLen; omega) (by omega) (by simp; omega)
  refine wpList_plain hgd fun K hK' => ?_
  unfold Oper.wp execOp
  simp only [ho, resolve, invoke, builtin, Sem.run_bind, Sem.run_pure, Result.andThen_ok, List.map_toArray, List.map_cons, List.map_nil, hx, hy, hr]
  refine hK' _ _ (hK v' w' h1' ?_ ?_ ((Shp.below hb).trans h4))
  · refine ⟨h2.os, h2.tape, h2.output, Nat.le_trans hb.size h2.size, fun k hk hne => (h2.block k (Nat.lt_of_lt_of_le hk hb.size) hne).trans (hb.block k hk)⟩
  · rcases h3 with h3 | h3
    · exact .inl h3
    · exact .inr ⟨_, h3, hb.size⟩

/-- 'l[0].Kind = c' -/
theorem wp_storeKSh {ops : Array Oper} {rest : List Oper} {op : Oper} {a : Act} {Q : Exit → Act → World → Prop} (w : World) (hgd : op.guard = none) (x y : Operand) (ho : op.op = .store 3 x y)
    (lo g n cap : Nat) (c : Int) (h : ShR w lo 31 4 (.slice (some ⟨g, 0, none⟩) n cap) n) (hx : a.eval x = .pointer (some ⟨g, 0, none⟩)) (hy : a.eval y = .int .i64 c) (hi : 0 < n)
    (hK : ∀ w', w'.heap.size = w.heap.size → w.grownBy w' (some g) → Shp 31 w w' → wpList Tryd.prog ops Q rest (a.put op.dst undef) w') : wpList Tryd.prog ops Q (op :: rest) a w := by
  rcases h with ⟨h0, _⟩ | ⟨g', cap', cur, hv, hlo, hg, hn, hc, hs⟩
  · cases h0
  · injection hv with a1 a2 a3
    injection a1 with a1
    injection a1 with a1
    subst a1
    subst a3
    refine wp_storeF w hgd 3 x y ho (by kernel_rfl) g 0 31 cur (.int .i64 c) hg hx hy (by omega) rfl rfl ?_
    intro w' h1 h2 h3
    exact hK w' h2 h3 (Shp.store hg h1 (by simp) h3)
/-- the row of a list, from a place on -/
def RowAt (w : World) (v : Value) (l : List RT) (i : Nat) (S : Nat → Prop) : Prop :=
  (l.length = 0 ∧ ShR w 0 31 4 v l.length) ∨ ∃ (g cap : Nat) (cur : Array Value) (xs : List Value) (bsr : List Nat), v = .slice (some ⟨g, 0, none⟩) l.length cap ∧ w.heap[g]? = some (.cells cur 31 (0, 0)) ∧ l.length ≤ cap ∧ cap ≤ maxLen ∧ cur.size = cap * 4 ∧
    (∀ j, i * 4 + j < l.length * 4 → cur[i * 4 + j]? = xs[j]?) ∧ RowB w (l.drop i) xs bsr ∧ (g :: bsr).Nodup ∧ S g ∧ ∀ q ∈ bsr, S q
theorem RowAt.sh {w : World} {v : Value} {l : List RT} {i : Nat} {S : Nat → Prop} (h : RowAt w v l i S) : ShR w 0 31 4 v l.length := by
  rcases h with ⟨_, h0⟩ | ⟨g, cap, cur, xs, bsr, rfl, h1, h2, h3, h4, _⟩
  · exact h0
  · exact .inr ⟨g, cap, cur, rfl, Nat.zero_le _, h1, h2, h3, h4⟩
theorem RowAt.start {w : World} {v : Value} {l : List RT} {xs : List Value} {bs : List Nat} (h : w.ownsRow 0 31 4 v l.length xs) (hr : RowB w l xs bs) (hn : (v.ownBlock.toList ++ bs).Nodup) : RowAt w v l 0 (fun g => g ∈ v.ownBlock.toList ++ bs) := by
  rcases h.2 with ⟨rfl, h0⟩ | ⟨g, cap, cur, rfl, h1, h2, h3, h4, h5, h6⟩
  · exact .inl ⟨h0, .of_own h⟩
  · refine .inr ⟨g, cap, cur, xs, bs, rfl, h2, h3, h4, h5, fun j hj => ?_, by rw [List.drop_zero]; exact hr, by simpa [Value.ownBlock] using hn, by simp [Value.ownBlock], fun q hq => by simp [hq]⟩
    rw [Nat.zero_mul, Nat.zero_add] at hj ⊢
    rw [← h6, List.getElem?_take_of_lt hj]
    simp
theorem RowAt.elem {w : World} {v : Value} {l : List RT} {i : Nat} {S : Nat → Prop} (h : RowAt w v l i S) (hi : i < l.length) :
    ∃ (g cap : Nat) (c0 c1 c2 c3 : Value) (bse : List Nat) (cur : Array Value), v = .slice (some ⟨g, 0, none⟩) l.length cap ∧ w.cell? ⟨g, i * 4, none⟩ = some c0 ∧ w.cell? ⟨g, i * 4 + 1, none⟩ = some c1 ∧ w.cell? ⟨g, i * 4 + 2, none⟩ = some c2 ∧ w.cell? ⟨g, i * 4 + 3, none⟩ = some c3 ∧
      RepB w (l[i]'hi) [c0, c1, c2, c3] bse ∧ bse.Nodup ∧ (∀ q ∈ bse, S q) ∧ S g ∧ i * 4 + 4 ≤ cur.size ∧
      ∀ w4 : World, (∀ q, q < w.heap.size → q ∉ bse → w4.heap[q]? = w.heap[q]?) → w4.heap[g]? = some (.cells cur 31 (0, 0)) ∧
        ∀ (w5 : World) (cur' : Array Value), w5.heap[g]? = some (.cells cur' 31 (0, 0)) → cur'.size = cur.size → (∀ j, i * 4 + 4 ≤ j → cur'[j]? = cur[j]?) → (∀ q, q ≠ g → q < w4.heap.size → w5.heap[q]? = w4.heap[q]?) → w.heap.size ≤ w4.heap.size → RowAt w5 v l (i + 1) S := by
  rcases h with ⟨h0, _⟩ | ⟨g, cap, cur, xs, bsr, rfl, h1, h2, h3, h4, h5, h6, h7, h8, h9⟩
  · omega
  rw [List.drop_eq_getElem_cons hi] at h6
  cases h6 with
  | cons t ts cs xs' bse bsr' hh hr =>
    obtain ⟨c0, c1, c2, c3, rfl, _⟩ := hh.four
    have key : ∀ j u, j < 4 → ([c0, c1, c2, c3] ++ xs')[j]? = some u → w.cell? ⟨g, i * 4 + j, none⟩ = some u := fun j u hj hu => by
      rw [← h5 j (by omega)] at hu
      exact cell_of h1 hu
    have hn := List.nodup_cons.1 h7
    have hnn := List.nodup_append.1 hn.2
    have hgl := (Array.getElem?_eq_some_iff.1 h1).1
    have hge : g ∉ bse := fun hm => hn.1 (by simp [hm])
    refine ⟨g, cap, c0, c1, c2, c3, bse, cur, rfl, key 0 _ (by omega) rfl, key 1 _ (by omega) rfl, key 2 _ (by omega) rfl, key 3 _ (by omega) rfl, hh, hnn.1, fun q hq => h9 q (by simp [hq]), h8, by rw [h4]; omega, fun w4 hw4 => ⟨(hw4 g hgl hge).trans h1, fun w5 cur' k1 k2 k3 k4 k5 => ?_⟩⟩
    refine .inr ⟨g, cap, cur', xs', bsr', rfl, k1, h2, h3, k2.trans h4, fun j hj => ?_, hr.keep fun q hq => ?_, List.nodup_cons.2 ⟨fun hm => hn.1 (by simp [hm]), hnn.2.1⟩, h8, fun q hq => h9 q (by simp [hq])⟩
    · rw [show (i + 1) * 4 + j = i * 4 + (4 + j) by omega] at hj ⊢
      rw [k3 _ (by omega), h5 _ hj]
      simp [show 4 + j = j + 4 by omega]
    · have hql := hr.lt q hq
      have hqg : q ≠ g := fun e => hn.1 (by rw [← e]; simp [hq])
      have hqe : q ∉ bse := fun hm => hnn.2.2 q hm q hq rfl
      rw [k4 q hqg (by omega), hw4 q hql hqe]
end Mm

set_option maxHeartbeats 4000000 in
theorem spoilt_walk : ∀ (t : RT), t.sz ≤ 1073741824 → ∀ (c0 c1 c2 c3 : Value) (bs : List Nat) (w : World), Mm.RepB w t [c0, c1, c2, c3] bs → bs.Nodup →
    Calls Tryd.prog 23 #[.agg #[c0, c1, c2, c3]] w fun e w' => (∃ u, e = .returned u) ∧ Mm.Tch w w' (fun g => g ∈ bs) := by
  intro t
  induction t using RT.ind with
  | h k s n l ih =>
    intro hsz c0 c1 c2 c3 bs w hx hnd
    rw [RT.sz_mk] at hsz
    have HL : Hid (l.length < 1073741824) := by have := RT.szL_len l; show _ < _; omega
    have HSZ := Pl.hid hsz
    have HLT := Pl.hid hx.lt
    obtain ⟨v, bs', hcs, xs, hown, hr, hbs⟩ : ∃ v bs', [c0, c1, c2, c3] = [.int .i64 k, .string s, .int .i64 n, v] ∧ ∃ xs, w.ownsRow 0 31 4 v l.length xs ∧ Mm.RowB w l xs bs' ∧ bs = v.ownBlock.toList ++ bs' := by
      cases hx with
      | mk k s n l v xs bs' hown hr => exact ⟨_, bs', rfl, xs, hown, hr, rfl⟩
    simp only [List.cons.injEq, and_true] at hcs
    obtain ⟨rfl, rfl, rfl, hc3⟩ := hcs
    obtain rfl : v = c3 := hc3.symm
    obtain ⟨S, hS⟩ : ∃ S : Nat → Prop, S = fun g => g ∈ bs := ⟨_, rfl⟩
    have HSD : Hid (∀ g, S g → g ∈ bs ∧ g < w.heap.size) := fun g hg => by rw [hS] at hg; exact ⟨hg, HLT.out g hg⟩
    have HST : Hid (Mm.RowAt w v l 0 S) := by
      have := Mm.RowAt.start hown hr (by rw [← hbs]; exact hnd)
      rw [← hbs] at this
      show Mm.RowAt w v l 0 S
      rw [hS]
      exact this
    have HVS : Hid (∀ g, v.ownBlock = some g → S g) := fun g hg => by rw [hS, hbs]; simp [hg]
    have hvf : ∃ a cap, v = .slice a l.length cap := by
      rcases hown.2 with ⟨rfl, h0⟩ | ⟨g, cap, cur, rfl, _⟩
      · exact ⟨none, 0, by rw [h0]⟩
      · exact ⟨_, _, rfl⟩
    obtain ⟨va, vc, rfl⟩ := hvf
    rw [← hS]
    have IH := Pl.hid ih
    clear ih hx hnd hsz hown hr hbs hS HLT
    have hln := HL.out
    go_enter Tryd.func23, Tryd.ntmps23
    go_wp2_with fail
    generalize hw1 : World.alloc _ _ = w1
    obtain ⟨p, hp⟩ : ∃ p, p = w.heap.size := ⟨_, rfl⟩
    rw [← hp]
    have HP1 : Hid (w1.heap[p]? = some (.cells #[.int .i64 k, .string s, .int .i64 n, .slice va l.length vc] 31 (0, 0))) := by show _ = _; rw [← hw1, hp]; exact heap_alloc_new w _
    have HB1 : Hid (Below w.heap.size w w1) := by rw [← hw1]; exact (Below.refl _ _).alloc (Nat.le_refl _) _
    have HPE := Pl.hid hp
    have HST1 : Hid (Mm.RowAt w1 (.slice va l.length vc) l 0 S) := by
      rcases HST.out with ⟨h0, h1⟩ | ⟨g, cap, cur, xs, bsr, e, h1, h2, h3, h4, h5, h6, h7, h8, h9⟩
      · exact .inl ⟨h0, h1.shp (Mm.Shp.below HB1.out)⟩
      · exact .inr ⟨g, cap, cur, xs, bsr, e, (HB1.out.block g (Array.getElem?_eq_some_iff.1 h1).1).trans h1, h2, h3, h4, h5, h6.keep fun q hq => HB1.out.block q (h6.lt q hq), h7, h8, h9⟩
    clear hw1 hp
    have p3 := Mm.cell_of HP1.out (i := 3) rfl
    go_wp2_with fail
    clear p3
    go_loopw [7] (fun iv wr => ∃ i : Nat, iv = .int .i64 i ∧ i ≤ l.length ∧ Hid (wr.heap[p]? = some (.cells #[.int .i64 k, .string s, .int .i64 n, .slice va l.length vc] 31 (0, 0))) ∧ Hid (Mm.Tch w wr S) ∧ Hid (Mm.RowAt wr (.slice va l.length vc) l i S)) (fun iv _ => l.length - (intOf iv).toNat)
    case atStart => exact ⟨0, rfl, Nat.zero_le _, HP1.out, Mm.Tch.of_below HB1.out S, HST1.out⟩
    case round =>
      obtain ⟨i, rfl, hi, HP, HT, HR⟩ := hrel
      have p3 := Mm.cell_of HP.out (i := 3) rfl
      have HPL : Hid (p < wr.heap.size) := (Array.getElem?_eq_some_iff.1 HP.out).1
      rcases Nat.lt_or_ge i l.length with hlt | hge
      · obtain ⟨g, cap, d0, d1, d2, d3, bse, cur, hv, g0, g1, g2, g3, hre, hnd, hse, hsg, hcz, hnext⟩ := HR.out.elem hlt
        injection hv with e1 e2 e3
        subst e1
        subst e3
        have HRE := Pl.hid hre
        have HND := Pl.hid hnd
        have HSE := Pl.hid hse
        have HSG := Pl.hid hsg
        have HCZ := Pl.hid hcz
        have HNX := Pl.hid hnext
        clear e2 hre hnd hse hsg hcz hnext
        go_wp2_with fail
        refine (IH.out _ (List.getElem_mem hlt) (by have := RT.szL_mem (List.getElem_mem hlt); have := HSZ.out; omega) d0 d1 d2 d3 bse wr HRE.out HND.out).mono ?_
        rintro e w4 ⟨⟨u, rfl⟩, ht4⟩
        have HT4 := Pl.hid ht4
        have HN4 := HNX.out w4 ht4.block
        have HG4 := Pl.hid HN4.1
        have HNX4 := Pl.hid HN4.2
        have HP4 : Hid (w4.heap[p]? = some (.cells #[.int .i64 k, .string s, .int .i64 n, .slice (some ⟨g, 0, none⟩) l.length vc] 31 (0, 0))) :=
          (ht4.block p HPL.out (fun hm => by have := (HSD.out p (HSE.out p hm)).2; rw [HPE.out] at this; omega)).trans HP.out
        have q3 := Mm.cell_of HP4.out (i := 3) rfl
        have HPG : Hid (p ≠ g) := fun e => by have := (HSD.out g HSG.out).2; rw [← e, HPE.out] at this; omega
        clear ht4 HN4 p3 g0 g1 g2 g3 HRE HND
        go_wp2_with (refine Mm.wp_store4At w4 rfl _ _ rfl g (i * 4) 31 cur (.int .i64 99) (.string ⟨#[115, 112, 111, 105, 108, 116]⟩) (.int .i64 0) (.slice none 0 0) HG4.out HCZ.out (by rfl) (by rfl) (by intro u hu; simp only [List.mem_cons, List.mem_nil_iff, or_false] at hu; rcases hu with rfl | rfl | rfl | rfl <;> rfl) ?_; intro w5 cur5 hw5 hz5 hc5 hs5 hg5; have HG5 := Pl.hid hg5; have HR5 := Pl.hid (HNX4.out w5 cur5 hw5 hz5 hc5 (fun q hq hql => hg5.block q hql (fun e => hq (by injection e))) HT4.out.size); clear hw5 hz5 hc5 hs5 hg5)
        refine ⟨⟨i + 1, by go_num, hlt, ?_, ?_, HR5.out⟩, by simp [intOf]; omega⟩
        · show _ = _
          rw [HG5.out.block p (Array.getElem?_eq_some_iff.1 HP4.out).1 (fun e => HPG.out (by injection e))]
          exact HP4.out
        · exact (HT.out.trans HT4.out (fun q hq _ => HSE.out q hq)).trans (Mm.Tch.of_grown (S := S) HG5.out (fun q hq _ => by injection hq with hq; rw [← hq]; exact HSG.out)) (fun q hq _ => hq)
      · have hd9 : decide (i < l.length) = false := decide_eq_false (by omega)
        go_wp2_with fail
        clear hd9
        have HS := Pl.hid HR.out.sh
        clear p3
        go_loopw [3, 24] (fun vv jv wr => ∃ j : Nat, jv = .int .i64 j ∧ j ≤ 20 ∧ Hid (Mm.Tch w wr S) ∧ Hid (Mm.ShR wr 0 31 4 vv (l.length + j)) ∧ Hid (∀ q, vv.ownBlock = some q → q < w.heap.size → S q)) (fun _ jv _ => 20 - (intOf jv).toNat)
        case atStart => exact ⟨0, rfl, Nat.zero_le _, HT.out, HS.out, fun q hq _ => HVS.out q hq⟩
        case round =>
          obtain ⟨j, rfl, hj, HT3, HV3, HO3⟩ := hrel
          have HJ3 : Hid (l.length + j < 1099511627776) := by show _ < _; omega
          rcases Nat.lt_or_ge j 20 with hlt | hge2
          · go_wp2_with (at_builtin; refine Mm.wp_appRSh wr rfl _ _ (by rfl) 0 u3 (l.length + j) (.int .i64 98) (.string ⟨#[]⟩) (.int .i64 0) (.slice none 0 0) (by intro u hu; simp only [List.mem_cons, List.mem_nil_iff, or_false] at hu; rcases hu with rfl | rfl | rfl | rfl <;> rfl) (by rfl) (by rfl) HV3.out HJ3.out (Nat.zero_le _) ?_; intro v4 w4 hs4 hg4 hb4 _; have HS4 := Pl.hid hs4; have HT4 := Pl.hid (HT3.out.trans (Mm.Tch.of_grown (S := fun q => u3.ownBlock = some q) hg4 (fun q hq _ => hq)) (fun q hq hql => HO3.out q hq hql)); have HO4 : Hid (∀ q, v4.ownBlock = some q → q < w.heap.size → S q) := (fun q hq hql => by
              rcases hb4 with hb4 | ⟨k', hb4, hk'⟩
              · exact HO3.out q (hb4 ▸ hq) hql
              · rw [hb4] at hq; injection hq with hq; have := HT3.out.size; omega); clear hs4 hg4 hb4)
            go_roundw
            case rel => exact ⟨j + 1, by go_num, hlt, HT4.out, HS4.out, HO4.out⟩
            case measure => simp [intOf]; omega
          · obtain rfl : j = 20 := by omega
            obtain ⟨g8, c8, hv8, ho8⟩ := HV3.out.slice (by omega)
            subst hv8
            have HO8 := Pl.hid (HO3.out g8 ho8)
            clear ho8
            go_wp2_with (refine Mm.wp_storeKSh wr rfl _ _ rfl 0 g8 (l.length + 20) c8 97 HV3.out (by rfl) (by rfl) (by omega) ?_; intro w9 hs9 hg9 hp9; have HT9 := Pl.hid (HT3.out.trans (Mm.Tch.of_grown (S := fun q => q = g8) hg9 (fun q hq _ => by injection hq with hq; exact hq.symm)) (fun q hq hql => by subst hq; exact HO8.out hql)); clear hs9 hg9 hp9)
            go_end0
            exact ⟨⟨_, rfl⟩, HT9.out⟩
end Go.Proofs.YtakldjdohgmeiaaDoor
