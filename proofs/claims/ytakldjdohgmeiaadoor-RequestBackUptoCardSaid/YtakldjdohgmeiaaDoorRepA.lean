/- Replies as trees, and how they lie in memory. Conditions stand in each law. -/
import Derived.Test.YtakldjdohgmeiaaDoorReqF
import Derived.Maps.AppendAt
import Derived.Laws.ResultCell
import Derived.Laws.Rows
namespace Go.Proofs.YtakldjdohgmeiaaDoor
open Go.RowKit
set_option maxRecDepth 20000

/-- a reply: its kind, text, number, list -/
inductive RT where
  | mk (k : Int) (s : ByteArray) (n : Int) (l : List RT)

namespace RT
theorem ind {P : RT → Prop} (h : ∀ k s n l, (∀ x ∈ l, P x) → P (.mk k s n l)) (t : RT) : P t :=
  RT.rec (motive_1 := P) (motive_2 := fun l => ∀ x ∈ l, P x) (fun k s n l ih => h k s n l ih) (fun x hx => by cases hx)
    (fun a l ha hl x hx => by
      rcases List.mem_cons.1 hx with rfl | hx
      · exact ha
      · exact hl x hx) t
mutual
/-- a bound for a reply's bytes -/
def sz : RT → Nat
  | .mk _ s _ l => s.size + 25 + szL l
def szL : List RT → Nat
  | [] => 0
  | t :: ts => sz t + szL ts
end
theorem szL_append : ∀ (a b : List RT), szL (a ++ b) = szL a + szL b
  | [], b => by simp [szL]
  | x :: a, b => by simp [szL, szL_append a b, Nat.add_assoc]
theorem sz_mk (k : Int) (s : ByteArray) (n : Int) (l : List RT) : sz (.mk k s n l) = s.size + 25 + szL l := by simp [sz]
theorem szL_snoc (a : List RT) (t : RT) : szL (a ++ [t]) = szL a + sz t := by simp [szL_append, szL]
theorem sz_pos (t : RT) : 25 ≤ sz t := by cases t; rw [sz_mk]; omega
theorem szL_mem : ∀ {l : List RT} {t : RT}, t ∈ l → sz t ≤ szL l
  | x :: l, t, h => by
    rcases List.mem_cons.1 h with rfl | h
    · simp [szL]
    · have := szL_mem h
      simp only [szL]
      omega
theorem szL_len : ∀ l : List RT, 25 * l.length ≤ szL l
  | [] => by simp [szL]
  | t :: ts => by
    have := szL_len ts
    have := sz_pos t
    simp only [szL, List.length_cons]
    omega
end RT

namespace Mm
open Pl
theorem Tryd.info_rep : (Tryd.prog.info? 31).map (fun i => (i.zero, i.size, i.bytes)) = some (some (.agg #[.int .i64 0, .string ⟨#[]⟩, .int .i64 0, .slice none 0 0]), 4, 56) := by kernel_rfl

theorem Tryd.info_rl : (Tryd.prog.info? 29).map (·.size) = some 1 := by kernel_rfl
mutual
/-- four cells are a reply; the blocks of its lists -/
inductive RepB (w : World) : RT → List Value → List Nat → Prop
  | mk (k : Int) (s : ByteArray) (n : Int) (l : List RT) (v : Value) (xs : List Value) (bs : List Nat) (hown : w.ownsRow 0 31 4 v l.length xs) (hr : RowB w l xs bs) :
      RepB w (.mk k s n l) [.int .i64 k, .string s, .int .i64 n, v] (v.ownBlock.toList ++ bs)
/-- cells are a row of replies -/
inductive RowB (w : World) : List RT → List Value → List Nat → Prop
  | nil : RowB w [] [] []
  | cons (t : RT) (ts : List RT) (cs xs : List Value) (bs bs' : List Nat) (h : RepB w t cs bs) (hr : RowB w ts xs bs') : RowB w (t :: ts) (cs ++ xs) (bs ++ bs')
end

theorem RepB.four {w : World} {t : RT} {cs : List Value} {bs : List Nat} (h : RepB w t cs bs) : ∃ c0 c1 c2 c3, cs = [c0, c1, c2, c3] ∧ ∀ u ∈ cs, u.oneCell' = true := by
  cases h with
  | mk k s n l v xs bs hown hr =>
    refine ⟨_, _, _, _, rfl, ?_⟩
    intro u hu
    simp only [List.mem_cons, List.mem_nil_iff, or_false] at hu
    rcases hu with rfl | rfl | rfl | rfl
    · rfl
    · rfl
    · rfl
    · rcases hown.2 with ⟨rfl, _⟩ | ⟨g, cap, cur, rfl, _⟩ <;> rfl

theorem ownsRowR_keep {w w' : World} {b : Nat} {e : TypeId} {z n : Nat} {v : Value} {xs : List Value} (h : w.ownsRow b e z v n xs) (hb : ∀ g, v.ownBlock = some g → w'.heap[g]? = w.heap[g]?) : w'.ownsRow b e z v n xs := by
  obtain ⟨hl, h0 | ⟨g, cap, cur, hv, hg, hh, r⟩⟩ := h
  · exact ⟨hl, .inl h0⟩
  · exact ⟨hl, .inr ⟨g, cap, cur, hv, hg, by rw [hb g (by rw [hv]; rfl)]; exact hh, r⟩⟩

mutual
theorem RepB.keep {w w' : World} : ∀ {t : RT} {cs : List Value} {bs : List Nat}, RepB w t cs bs → (∀ g ∈ bs, w'.heap[g]? = w.heap[g]?) → RepB w' t cs bs
  | _, _, _, .mk k s n l v xs bs hown hr, hb => .mk k s n l v xs bs (ownsRowR_keep hown fun g hg => hb g (by simp [hg])) (RowB.keep hr fun g hg => hb g (by simp [hg]))
theorem RowB.keep {w w' : World} : ∀ {ts : List RT} {xs : List Value} {bs : List Nat}, RowB w ts xs bs → (∀ g ∈ bs, w'.heap[g]? = w.heap[g]?) → RowB w' ts xs bs
  | _, _, _, .nil, _ => .nil
  | _, _, _, .cons t ts cs xs bs bs' h hr, hb => .cons t ts cs xs bs bs' (RepB.keep h fun g hg => hb g (by simp [hg])) (RowB.keep hr fun g hg => hb g (by simp [hg]))
end

theorem ownsRow_lt {w : World} {b : Nat} {e : TypeId} {z n : Nat} {v : Value} {xs : List Value} (h : w.ownsRow b e z v n xs) {g : Nat} (hg : v.ownBlock = some g) : g < w.heap.size := by
  obtain ⟨hl, ⟨rfl, _⟩ | ⟨g', cap, cur, rfl, _, hh, _⟩⟩ := h
  · cases hg
  · cases hg
    exact (Array.getElem?_eq_some_iff.1 hh).1

mutual
theorem RepB.lt {w : World} : ∀ {t : RT} {cs : List Value} {bs : List Nat}, RepB w t cs bs → ∀ g ∈ bs, g < w.heap.size
  | _, _, _, .mk k s n l v xs bs hown hr, g, hg => by
    rcases List.mem_append.1 hg with hg | hg
    · exact ownsRow_lt hown (by simpa using hg)
    · exact RowB.lt hr g hg
theorem RowB.lt {w : World} : ∀ {ts : List RT} {xs : List Value} {bs : List Nat}, RowB w ts xs bs → ∀ g ∈ bs, g < w.heap.size
  | _, _, _, .nil, g, hg => by cases hg
  | _, _, _, .cons t ts cs xs bs bs' h hr, g, hg => by
    rcases List.mem_append.1 hg with hg | hg
    · exact RepB.lt h g hg
    · exact RowB.lt hr g hg
end

theorem RowB.snoc {w : World} {t : RT} {cs : List Value} {bs' : List Nat} (h : RepB w t cs bs') : ∀ {ts : List RT} {xs : List Value} {bs : List Nat}, RowB w ts xs bs → RowB w (ts ++ [t]) (xs ++ cs) (bs ++ bs')
  | _, _, _, .nil => by
    have := RowB.cons t [] cs [] bs' [] h .nil
    simpa using this
  | _, _, _, .cons t0 ts cs0 xs bs0 bs1 h0 hr => by
    have := RowB.cons t0 _ cs0 _ bs0 _ h0 (RowB.snoc h hr)
    simpa using this

theorem RowB.at {w : World} : ∀ {ts : List RT} {xs : List Value} {bs : List Nat}, RowB w ts xs bs → ∀ (i : Nat) (hi : i < ts.length),
    ∃ c0 c1 c2 c3 bs', xs[i * 4]? = some c0 ∧ xs[i * 4 + 1]? = some c1 ∧ xs[i * 4 + 2]? = some c2 ∧ xs[i * 4 + 3]? = some c3 ∧ RepB w (ts[i]'hi) [c0, c1, c2, c3] bs' ∧ ∀ g ∈ bs', g ∈ bs
  | _, _, _, .nil, i, hi => by simp at hi
  | _, _, _, .cons t ts cs xs bs bs' h hr, i, hi => by
    obtain ⟨c0, c1, c2, c3, rfl, _⟩ := h.four
    cases i with
    | zero => exact ⟨c0, c1, c2, c3, bs, rfl, rfl, rfl, rfl, h, fun g hg => by simp [hg]⟩
    | succ i =>
      obtain ⟨d0, d1, d2, d3, bs1, e0, e1, e2, e3, h1, h2⟩ := RowB.at hr i (by simpa using hi)
      refine ⟨d0, d1, d2, d3, bs1, ?_, ?_, ?_, ?_, h1, fun g hg => by simp [h2 g hg]⟩ <;>
        (rw [show (i + 1) * 4 = i * 4 + 4 by omega]; simpa [Nat.add_right_comm] using (by assumption))

/-- a reply that can be read -/
def RepX (w : World) (t : RT) (cs : List Value) : Prop := ∃ bs, RepB w t cs bs
theorem RepX.keep {w w' : World} {t : RT} {cs : List Value} (h : RepX w t cs) (hb : Below w.heap.size w w') : RepX w' t cs := by
  obtain ⟨bs, h⟩ := h
  exact ⟨bs, h.keep fun g hg => hb.block g (h.lt g hg)⟩
theorem RepX.one {w : World} {t : RT} {cs : List Value} (h : RepX w t cs) : ∀ u ∈ cs, u.oneCell' = true := by
  obtain ⟨bs, h⟩ := h
  obtain ⟨_, _, _, _, _, h⟩ := h.four
  exact h
/-- a reply, opened -/
theorem RepX.open {w : World} {k : Int} {s : ByteArray} {n : Int} {l : List RT} {cs : List Value} (h : RepX w (.mk k s n l) cs) :
    ∃ (a : Option Addr) (cap : Nat), cs = [.int .i64 k, .string s, .int .i64 n, .slice a l.length cap] ∧ (l.length = 0 ∨ ∃ b, a = some ⟨b, 0, none⟩ ∧ b < w.heap.size ∧
      ∀ i (hi : i < l.length), ∃ c0 c1 c2 c3, w.cell? ⟨b, i * 4, none⟩ = some c0 ∧ w.cell? ⟨b, i * 4 + 1, none⟩ = some c1 ∧ w.cell? ⟨b, i * 4 + 2, none⟩ = some c2 ∧ w.cell? ⟨b, i * 4 + 3, none⟩ = some c3 ∧ RepX w (l[i]'hi) [c0, c1, c2, c3]) := by
  obtain ⟨bs, h⟩ := h
  cases h with
  | mk k s n l v xs bs hown hr =>
    rcases hown.2 with ⟨rfl, h0⟩ | ⟨g, cap, cur, rfl, _, hh, hle, hm, hc, ht⟩
    · exact ⟨none, 0, by rw [h0], .inl h0⟩
    · refine ⟨_, _, rfl, .inr ⟨g, rfl, (Array.getElem?_eq_some_iff.1 hh).1, fun i hi => ?_⟩⟩
      obtain ⟨c0, c1, c2, c3, bs', e0, e1, e2, e3, h1, _⟩ := hr.at i hi
      have key : ∀ j u, xs[j]? = some u → w.cell? ⟨g, j, none⟩ = some u := by
        intro j u hj
        rw [← ht] at hj
        have hlt := (List.getElem?_eq_some_iff.1 hj).1
        rw [List.length_take] at hlt
        rw [List.getElem?_take_of_lt (by omega)] at hj
        unfold World.cell?
        rw [hh]
        simpa using hj
      exact ⟨c0, c1, c2, c3, key _ _ e0, key _ _ e1, key _ _ e2, key _ _ e3, bs', h1⟩

/-- a row of replies in blocks of one's own -/
def OwnL (w : World) (lo : Nat) (v : Value) (ts : List RT) : Prop :=
  ∃ xs bs, w.ownsRow 0 31 4 v ts.length xs ∧ RowB w ts xs bs ∧ (v.ownBlock.toList ++ bs).Nodup ∧ ∀ g ∈ v.ownBlock.toList ++ bs, lo ≤ g
/-- a reply in blocks of one's own -/
def OwnT (w : World) (lo : Nat) (t : RT) (cs : List Value) : Prop := ∃ bs, RepB w t cs bs ∧ bs.Nodup ∧ ∀ g ∈ bs, lo ≤ g

theorem OwnL.nil (w : World) (lo : Nat) : OwnL w lo (.slice none 0 0) [] := ⟨[], [], ⟨rfl, .inl ⟨rfl, rfl⟩⟩, .nil, by simp [Value.ownBlock], by simp [Value.ownBlock]⟩
theorem OwnL.rep {w : World} {lo : Nat} {v : Value} {ts : List RT} (h : OwnL w lo v ts) (k : Int) (s : ByteArray) (n : Int) : OwnT w lo (.mk k s n ts) [.int .i64 k, .string s, .int .i64 n, v] := by
  obtain ⟨xs, bs, h1, h2, h3, h4⟩ := h
  exact ⟨_, .mk k s n ts v xs bs h1 h2, h3, h4⟩
theorem OwnT.list {w : World} {lo : Nat} {k : Int} {s : ByteArray} {n : Int} {l : List RT} {cs : List Value} (h : OwnT w lo (.mk k s n l) cs) : ∃ v, cs = [.int .i64 k, .string s, .int .i64 n, v] ∧ OwnL w lo v l := by
  obtain ⟨bs, h1, h2, h3⟩ := h
  cases h1 with
  | mk k s n l v xs bs hown hr => exact ⟨v, rfl, xs, bs, hown, hr, h2, h3⟩
theorem OwnT.x {w : World} {lo : Nat} {t : RT} {cs : List Value} (h : OwnT w lo t cs) : RepX w t cs := ⟨h.choose, h.choose_spec.1⟩
theorem OwnT.below {w w' : World} {lo : Nat} {t : RT} {cs : List Value} (h : OwnT w lo t cs) (hb : Below w.heap.size w w') : OwnT w' lo t cs := by
  obtain ⟨bs, h1, h2, h3⟩ := h
  exact ⟨bs, h1.keep fun g hg => hb.block g (h1.lt g hg), h2, h3⟩
theorem OwnT.lo {w : World} {lo lo' : Nat} {t : RT} {cs : List Value} (h : OwnT w lo t cs) (hl : lo' ≤ lo) : OwnT w lo' t cs := by
  obtain ⟨bs, h1, h2, h3⟩ := h
  exact ⟨bs, h1, h2, fun g hg => Nat.le_trans hl (h3 g hg)⟩
theorem OwnL.below {w w' : World} {lo : Nat} {v : Value} {ts : List RT} (h : OwnL w lo v ts) (hb : Below w.heap.size w w') : OwnL w' lo v ts := by
  obtain ⟨xs, bs, h1, h2, h3, h4⟩ := h
  exact ⟨xs, bs, ownsRowR_keep h1 fun g hg => hb.block g (ownsRow_lt h1 hg), h2.keep fun g hg => hb.block g (h2.lt g hg), h3, h4⟩
theorem OwnT.keepLo {w w' : World} {lo : Nat} {t : RT} {cs : List Value} (h : OwnT w lo t cs) (hb : ∀ g, lo ≤ g → g < w.heap.size → w'.heap[g]? = w.heap[g]?) : OwnT w' lo t cs := by
  obtain ⟨bs, h1, h2, h3⟩ := h
  exact ⟨bs, h1.keep fun g hg => hb g (h3 g hg) (h1.lt g hg), h2, h3⟩
theorem OwnL.keepLo {w w' : World} {lo : Nat} {v : Value} {ts : List RT} (h : OwnL w lo v ts) (hb : ∀ g, lo ≤ g → g < w.heap.size → w'.heap[g]? = w.heap[g]?) : OwnL w' lo v ts := by
  obtain ⟨xs, bs, h1, h2, h3, h4⟩ := h
  exact ⟨xs, bs, ownsRowR_keep h1 fun g hg => hb g (h4 g (by simp [hg])) (ownsRow_lt h1 hg), h2.keep fun g hg => hb g (h4 g (by simp [hg])) (h2.lt g hg), h3, h4⟩
theorem OwnL.one {w : World} {lo : Nat} {v : Value} {ts : List RT} (h : OwnL w lo v ts) : v.oneCell' = true ∧ v.cells = #[v] := by
  obtain ⟨xs, bs, h1, _⟩ := h
  rcases h1.2 with ⟨rfl, h0⟩ | ⟨g, cap, cur, rfl, _⟩ <;> exact ⟨rfl, rfl⟩
theorem OwnT.one {w : World} {lo : Nat} {t : RT} {cs : List Value} (h : OwnT w lo t cs) : ∀ u ∈ cs, u.oneCell' = true := by
  obtain ⟨bs, h1, _⟩ := h
  obtain ⟨_, _, _, _, _, h⟩ := h1.four
  exact h
theorem cell_of {w : World} {p i : Nat} {cs : Array Value} {T : TypeId} {z : Nat × Nat} {v : Value} (h : w.heap[p]? = some (.cells cs T z)) (hi : cs[i]? = some v) : w.cell? ⟨p, i, none⟩ = some v := by
  unfold World.cell?
  rw [h]
  exact hi
theorem heap_set {w : World} {p : Nat} {cs : Array Value} {T : TypeId} {z : Nat × Nat} (h : w.heap[p]? = some (.cells cs T z)) (i : Nat) (u : Value) : (w.setCell ⟨p, i, none⟩ u).heap[p]? = some (.cells (cs.setIfInBounds i u) T z) := by
  simp [World.setCell, Array.getElem?_modify, h]
theorem grown_set (w : World) (p i : Nat) (u : Value) : w.grownBy (w.setCell ⟨p, i, none⟩ u) (some p) :=
  ⟨rfl, rfl, rfl, by simp [World.setCell], fun k _ hk => Below.heap_setCell w _ u k (fun e => hk (by rw [e]))⟩
theorem frozen_of {w : World} {p i : Nat} {cs : Array Value} {T : TypeId} (h : w.heap[p]? = some (.cells cs T (0, 0))) : w.frozen? ⟨p, i, none⟩ = false := by
  simp [World.frozen?, h]
theorem undrew {B : Nat} {w w' : World} (h : Below B w.drew w') : Below B w w' := ⟨h.os, h.tape, h.output, h.size, h.block⟩
/-- the results of a function whose first result is a reply in memory -/
theorem res_cell_tmp {fn : Func} {p u : Tmp} (h : fn.results = #[.cell p 31, .tmp u]) (tmps : Array Value) (w : World) (g : Nat) (T : TypeId) (c0 c1 c2 c3 : Value) (fr : Nat × Nat)
    (hp : tmps.getD p undef = .pointer (some ⟨g, 0, none⟩)) (hg : w.heap[g]? = some (.cells #[c0, c1, c2, c3] T fr)) :
    (results fn tmps).run Tryd.prog w = .ok (.tuple #[.agg #[c0, c1, c2, c3], tmps.getD u undef]) w := by
  obtain ⟨i0, hi, hz0, hz1, hz2⟩ := info_parts Tryd.info_rep
  rw [results_cell_tmp h, hp]
  simp only [asAddr]
  simp [run_loadVar_row w g T 31 _ fr _ hg Tryd.underlying31 rfl (by rw [hi]; simp [hz1])]
/-- the result of a function whose result is a reply in memory -/
theorem res_cell {fn : Func} {p : Tmp} (h : fn.results = #[.cell p 31]) (tmps : Array Value) (w : World) (g : Nat) (T : TypeId) (c0 c1 c2 c3 : Value) (fr : Nat × Nat)
    (hp : tmps.getD p undef = .pointer (some ⟨g, 0, none⟩)) (hg : w.heap[g]? = some (.cells #[c0, c1, c2, c3] T fr)) :
    (results fn tmps).run Tryd.prog w = .ok (.agg #[c0, c1, c2, c3]) w := by
  obtain ⟨i0, hi, hz0, hz1, hz2⟩ := info_parts Tryd.info_rep
  exact results_cell_row h tmps w g T _ fr _ hp hg Tryd.underlying31 rfl (by rw [hi]; simp [hz1])
theorem OwnL.val {w : World} {lo : Nat} {v : Value} {ts : List RT} (h : OwnL w lo v ts) : ∃ a cap, v = .slice a ts.length cap := by
  obtain ⟨xs, bs, h1, _⟩ := h
  rcases h1.2 with ⟨rfl, h0⟩ | ⟨g, cap, cur, rfl, _⟩
  · exact ⟨none, 0, by rw [h0]⟩
  · exact ⟨_, _, rfl⟩

/-- a store of a whole reply into a block of four cells -/
theorem wp_store4 {ops : Array Oper} {rest : List Oper} {op : Oper} {a : Act} {Q : Exit → Act → World → Prop} (w : World) (hgd : op.guard = none) (x y : Operand) (ho : op.op = .store 31 x y)
    (p : Nat) (T : TypeId) (cs : Array Value) (c0 c1 c2 c3 : Value) (h : w.heap[p]? = some (.cells cs T (0, 0))) (hcs : cs.size = 4) (hx : a.eval x = .pointer (some ⟨p, 0, none⟩)) (hy : a.eval y = .agg #[c0, c1, c2, c3]) (h1 : ∀ u ∈ [c0, c1, c2, c3], u.oneCell' = true)
    (hK : ∀ w', w'.heap[p]? = some (.cells #[c0, c1, c2, c3] T (0, 0)) → w'.heap.size = w.heap.size → w.grownBy w' (some p) → wpList Tryd.prog ops Q rest (a.put op.dst undef) w') : wpList Tryd.prog ops Q (op :: rest) a w := by
  refine wpList_plain hgd fun K hK' => ?_
  obtain ⟨i0, hi0, hz0, hz1, hz2⟩ := info_parts Tryd.info_rep
  have hst := run_storeCells_at Tryd.prog p 0 T [c0, c1, c2, c3] 0 _ w h (by simp; omega) h1
  have hrun : (Instr.storeAt 31 (.pointer (some ⟨p, 0, none⟩)) (.agg #[c0, c1, c2, c3])).run Tryd.prog w =
      .ok () (w.setRow p (cs.toList.take 0 ++ [c0, c1, c2, c3] ++ cs.toList.drop (0 + 4)).toArray) := by
    simp only [Nat.add_zero] at hst
    simp [Instr.storeAt, Instr.sureAddr, storeVar, sizeOf, typeInfo, hi0, hz1, Value.cells]
    simpa using hst
  unfold Oper.wp execOp
  simp only [ho, hx, hy, Sem.run_bind, Sem.run_pure, Result.andThen_ok, hrun]
  refine hK' _ _ (hK _ ?_ (by simp [World.setRow]) ⟨rfl, rfl, rfl, by simp [World.setRow], fun k _ hk => setRow_other w p k _ (fun e => hk (by rw [e]))⟩)
  rw [setRow_heap w p _ _ _ _ h]
  congr 2
  apply Array.ext'
  have : cs.toList.drop 4 = [] := List.drop_eq_nil_iff.2 (by simp [hcs])
  simp [this]

/-- 'append(l, x)': one more reply, which was made behind the row -/
theorem run_appR (w : World) (ty : TypeId) (w0 w1 : World) (lo : Nat) (v : Value) (ts : List RT) (h : OwnL w0 lo v ts) (t : RT) (cs : List Value) (ht : OwnT w1 w0.heap.size t cs)
    (hw : w = w1.alloc (.cells cs.toArray 31)) (hb : Below w0.heap.size w0 w1) (hl : ts.length < 1073741824) (hlo : lo ≤ w0.heap.size) :
    ∃ v' w', (Builtin.append_ #[29, 29] ty #[v, .slice (some ⟨w1.heap.size, 0, none⟩) 1 1]).run Tryd.prog w = .ok v' w' ∧ OwnL w' lo v' (ts ++ [t]) ∧ Below lo w1 w' ∧ w.grownBy w' v.ownBlock := by
  obtain ⟨i0, hi, hz0, hz1, hz2⟩ := info_parts Tryd.info_rep
  have hb1 : Below w1.heap.size w1 w := by rw [hw]; exact (Below.refl _ _).alloc (Nat.le_refl _) _
  have hs : w.heap.size = w1.heap.size + 1 := by rw [hw]; simp
  obtain ⟨xs0, bs0, g1, g2, g3, g4⟩ := h
  obtain ⟨bt, t1, t2, t3⟩ := ht
  obtain ⟨c0, c1, c2, c3, rfl, hone⟩ := t1.four
  have k1 := ownsRowR_keep g1 (w' := w) fun g hg => (hb.trans (hb1.mono hb.size)).block g (ownsRow_lt g1 hg)
  have k2 := g2.keep (w' := w) fun g hg => (hb.trans (hb1.mono hb.size)).block g (g2.lt g hg)
  have kt := t1.keep (w' := w) fun g hg => hb1.block g (t1.lt g hg)
  obtain ⟨v', w', hr, r1, r2, _, r4⟩ := run_append_own_at (P := Tryd.prog) w 0 29 ty 31 i0 (.agg #[.int .i64 0, .string ⟨#[]⟩, .int .i64 0, .slice none 0 0]) 4 56 Tryd.underlying29 hi hz0 hz1 hz2 rfl (by decide) v ts.length xs0 k1 ⟨w1.heap.size, 0, none⟩ 1 1 [c0, c1, c2, c3] rfl
    (by
      intro j u hj
      have e : (⟨w1.heap.size, 0, none⟩ : Addr).add j = ⟨w1.heap.size, j, none⟩ := by unfold Addr.add; split <;> simp_all
      rw [e, hw, World.cell?_alloc_mark]
      simpa using hj) hone (by unfold maxLen; omega) (by omega) (Nat.zero_le _)
  have hlt : ∀ g ∈ v.ownBlock.toList ++ bs0, g < w0.heap.size := by
    intro g hg
    rcases List.mem_append.1 hg with hg | hg
    · exact ownsRow_lt g1 (by simpa using hg)
    · exact g2.lt g hg
  have hsz0 : w0.heap.size ≤ w1.heap.size := hb.size
  have far : ∀ g, g ∈ bs0 ++ bt → w'.heap[g]? = w.heap[g]? := by
    intro g hg
    have hgl : g < w.heap.size := by
      rcases List.mem_append.1 hg with hg | hg
      · exact k2.lt g hg
      · exact kt.lt g hg
    refine r2.block g hgl fun e => ?_
    have hv : g ∈ v.ownBlock.toList := by rw [← e]; simp
    rcases List.mem_append.1 hg with hg | hg
    · exact (List.nodup_append.1 g3).2.2 g hv g hg rfl
    · have := t3 g hg
      have := hlt g (by simp [hv])
      omega
  refine ⟨v', w', hr, ⟨xs0 ++ [c0, c1, c2, c3], bs0 ++ bt, by rw [List.length_append]; exact r1, (RowB.snoc kt k2).keep fun g hg => far g hg, ?_, ?_⟩, ?_, r2⟩
  · have hn : (bs0 ++ bt).Nodup := List.nodup_append.2 ⟨(List.nodup_append.1 g3).2.1, t2, fun a ha b hb' e => by
      have := hlt a (by simp [ha])
      have := t3 b hb'
      omega⟩
    refine List.nodup_append.2 ⟨by cases v'.ownBlock <;> simp, hn, fun a ha b hb' e => ?_⟩
    subst e
    rcases r4 with e | e
    · rw [e] at ha
      rcases List.mem_append.1 hb' with hb' | hb'
      · exact (List.nodup_append.1 g3).2.2 a ha a hb' rfl
      · have := hlt a (by simp [ha])
        have := t3 a hb'
        omega
    · rw [e] at ha
      simp at ha
      rcases List.mem_append.1 hb' with hb' | hb'
      · have := hlt a (by simp [hb'])
        omega
      · have := t1.lt a hb'
        omega
  · intro g hg
    rcases List.mem_append.1 hg with hg | hg
    · rcases r4 with e | e
      · rw [e] at hg
        exact g4 g (by simp [hg])
      · rw [e] at hg
        simp at hg
        omega
    · rcases List.mem_append.1 hg with hg | hg
      · exact g4 g (by simp [hg])
      · have := t3 g hg
        omega
  · exact (hb1.mono (by omega)).grown r2 (by omega) fun k hk => g4 k (by simp [hk])

theorem wp0_appR {o : Oper} {a : Act} {K : Act → World → Prop} {Q : Exit → Act → World → Prop} (w : World) (x y : Operand)
    (ho : o.op = .call { callee := .builtin .append, args := #[x, y], argTypes := #[29, 29] })
    (w0 w1 : World) (lo : Nat) (v : Value) (ts : List RT) (hx : a.eval x = v) (h : OwnL w0 lo v ts) (t : RT) (cs : List Value) (ht : OwnT w1 w0.heap.size t cs)
    (hy : a.eval y = .slice (some ⟨w1.heap.size, 0, none⟩) 1 1) (hw : w = w1.alloc (.cells cs.toArray 31)) (hb : Below w0.heap.size w0 w1) (hl : ts.length < 1073741824) (hlo : lo ≤ w0.heap.size)
    (hK : ∀ v' w', OwnL w' lo v' (ts ++ [t]) → Below lo w1 w' → w.grownBy w' v.ownBlock → K (a.put o.dst v') w') : o.wp Tryd.prog a w K Q := by
  obtain ⟨v', w', hr, h2, h3, h4⟩ := run_appR w o.type w0 w1 lo v ts h t cs ht hw hb hl hlo
  unfold Oper.wp execOp
  simp only [ho, resolve, invoke, builtin, Sem.run_bind, Sem.run_pure, Result.andThen_ok, List.map_toArray, List.map_cons, List.map_nil, hx, hy, hr]
  exact hK v' w' h2 h3 h4
/-- in a plain region -/
theorem wp_appR {ops : Array Oper} {rest : List Oper} {o : Oper} {a : Act} {Q : Exit → Act → World → Prop} (w : World) (hgd : o.guard = none) (x y : Operand)
    (ho : o.op = .call { callee := .builtin .append, args := #[x, y], argTypes := #[29, 29] })
    (w0 w1 : World) (lo : Nat) (v : Value) (ts : List RT) (hx : a.eval x = v) (h : OwnL w0 lo v ts) (t : RT) (cs : List Value) (ht : OwnT w1 w0.heap.size t cs)
    (hy : a.eval y = .slice (some ⟨w1.heap.size, 0, none⟩) 1 1) (hw : w = w1.alloc (.cells cs.toArray 31)) (hb : Below w0.heap.size w0 w1) (hl : ts.length < 1073741824) (hlo : lo ≤ w0.heap.size)
    (hK : ∀ v' w', OwnL w' lo v' (ts ++ [t]) → Below lo w1 w' → wpList Tryd.prog ops Q rest (a.put o.dst v') w') :
    wpList Tryd.prog ops Q (o :: rest) a w :=
  wpList_plain hgd fun _ hK' => wp0_appR w x y ho w0 w1 lo v ts hx h t cs ht hy hw hb hl hlo fun v' w' h2 h3 _ => hK' _ _ (hK v' w' h2 h3)
/-- in a region that draws its order -/
theorem step_appR {ops : Array Oper} {o : Oper} {a : Act} {K : Act → World → Prop} {Q : Exit → Act → World → Prop} {E : Prop} (w : World) (hgd : o.guard = none) (x y : Operand)
    (ho : o.op = .call { callee := .builtin .append, args := #[x, y], argTypes := #[29, 29] })
    (w0 w1 : World) (lo : Nat) (v : Value) (ts : List RT) (hx : a.eval x = v) (h : OwnL w0 lo v ts) (t : RT) (cs : List Value) (ht : OwnT w1 w0.heap.size t cs)
    (hy : a.eval y = .slice (some ⟨w1.heap.size, 0, none⟩) 1 1) (hw : w = w1.alloc (.cells cs.toArray 31)) (hb : Below w0.heap.size w0 w1) (hl : ts.length < 1073741824) (hlo : lo ≤ w0.heap.size)
    (hK : ∀ v' w', OwnL w' lo v' (ts ++ [t]) → Below lo w1 w' → w.grownBy w' v.ownBlock → K (a.put o.dst v') w') :
    if Region.wanted o (yielded ops a.tmps) = true then Oper.wp Tryd.prog o a w K Q else E := by
  have hwd : Region.wanted o (yielded ops a.tmps) = true := by simp [Region.wanted, hgd]
  rw [if_pos hwd]
  exact wp0_appR w x y ho w0 w1 lo v ts hx h t cs ht hy hw hb hl hlo hK
end Mm
end Go.Proofs.YtakldjdohgmeiaaDoor
