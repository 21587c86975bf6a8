/- Laws on memory for the walks of a parser: a field of a struct in a block of the call's own, bytes at a place, rows of commands. Conditions stand in each law. -/
import Derived.Test.YtakldjdohgmeiaaDoorReqE
namespace Go.Proofs.YtakldjdohgmeiaaDoor
open Go.RowKit
set_option maxRecDepth 20000

namespace Mm
open Pl
/-- the bytes of a list stand at a place -/
def BytesAt (w : World) (g o : Nat) (l : List UInt8) : Prop := ∀ j, j < l.length → w.cell? ⟨g, o + j, none⟩ = some (.int .u8 (at_ l j))
theorem BytesAt.keep {w w' : World} {g o : Nat} {l : List UInt8} (h : BytesAt w g o l) (hb : w'.heap[g]? = w.heap[g]?) : BytesAt w' g o l := fun j hj => by
  rw [World.cell?_of_block (w := w) (a := ⟨g, o + j, none⟩) hb]
  exact h j hj
theorem BytesAt.lt {w : World} {g o : Nat} {l : List UInt8} (h : BytesAt w g o l) (h0 : 0 < l.length) : g < w.heap.size := World.block_lt_of_cell? _ _ (h 0 h0)
theorem OwnB.bytesAt {w : World} {b g n c : Nat} {l : List UInt8} (h : OwnB w b (.slice (some ⟨g, 0, none⟩) n c) l) : BytesAt w g 0 l := fun j hj => by
  have := h.cells (g := g) rfl j (byteV (l[j]'hj)) (by simp [bytesV, List.getElem?_eq_getElem hj])
  have e : (⟨g, 0, none⟩ : Addr).add j = ⟨g, j, none⟩ := by unfold Addr.add; split <;> simp_all
  rw [e] at this
  rw [Nat.zero_add, this]
  unfold byteV at_
  rw [List.getD_eq_getElem?_getD, List.getElem?_eq_getElem hj]
  rfl
theorem OwnB.val {w : World} {b : Nat} {v : Value} {l : List UInt8} (h : OwnB w b v l) : ∃ a c, v = .slice a l.length c ∧ (l.length = 0 ∧ a = none ∧ c = 0 ∨ ∃ g, a = some ⟨g, 0, none⟩ ∧ b ≤ g ∧ g < w.heap.size ∧ l.length ≤ c) := by
  rcases h.2 with ⟨rfl, h0⟩ | ⟨g, cap, cur, rfl, hb, hg, hle, _⟩
  · exact ⟨none, 0, by rw [h0], .inl ⟨h0, rfl, rfl⟩⟩
  · exact ⟨_, _, rfl, .inr ⟨g, rfl, hb, (Array.getElem?_eq_some_iff.1 hg).1, hle⟩⟩
theorem OwnB.keep {w w' : World} {b : Nat} {v : Value} {l : List UInt8} (h : OwnB w b v l) (hb : ∀ g, v.ownBlock = some g → w'.heap[g]? = w.heap[g]?) : OwnB w' b v l := by
  obtain ⟨hl, h0 | ⟨g, cap, cur, hv, hg, hh, r⟩⟩ := h
  · exact ⟨hl, .inl h0⟩
  · exact ⟨hl, .inr ⟨g, cap, cur, hv, hg, by rw [hb g (by rw [hv]; rfl)]; exact hh, r⟩⟩
theorem OwnS.keep {w w' : World} {b : Nat} {v : Value} {l : List (List UInt8)} (h : OwnS w b v l) (hb : ∀ g, v.ownBlock = some g → w'.heap[g]? = w.heap[g]?) : OwnS w' b v l := by
  obtain ⟨hl, h0 | ⟨g, cap, cur, hv, hg, hh, r⟩⟩ := h
  · exact ⟨hl, .inl h0⟩
  · exact ⟨hl, .inr ⟨g, cap, cur, hv, hg, by rw [hb g (by rw [hv]; rfl)]; exact hh, r⟩⟩

/-- 'append(s, b...)': bytes at a place behind an owned row -/
theorem wp_appB {ops : Array Oper} {rest : List Oper} {o : Oper} {a : Act} {Q : Exit → Act → World → Prop} (w : World) (hgd : o.guard = none) (x y : Operand)
    (ho : o.op = .call { callee := .builtin .append, args := #[x, y], argTypes := #[24, 24] })
    (base : Nat) (v : Value) (l : List UInt8) (hx : a.eval x = v) (h : OwnB w base v l) (g off c : Nat) (m : List UInt8) (n : Nat) (hn : n = m.length) (hy : a.eval y = .slice (some ⟨g, off, none⟩) n c) (hm : BytesAt w g off m)
    (hl : l.length + m.length ≤ 140737488355328) (hbase : base ≤ w.heap.size)
    (hK : ∀ v' w', OwnB w' base v' (l ++ m) → w.grownBy w' v.ownBlock → wpList Tryd.prog ops Q rest (a.put o.dst v') w') :
    wpList Tryd.prog ops Q (o :: rest) a w := by
  subst hn
  obtain ⟨i0, hi, hz0, hz1, hz2⟩ := info_parts Tryd.info_u8
  refine wpList_append_own _ hgd x y 24 ho base 5 i0 (.int .u8 0) 1 1 Tryd.underlying24 hi hz0 hz1 hz2 rfl (by decide) v l.length (bytesV l) hx h ⟨g, off, none⟩ m.length c (bytesV m) hy (by simp [bytesV]) ?_ (bytesV_one m) ?_ (by omega) hbase ?_
  · intro j u hj
    have hj' : j < m.length := by
      have := (List.getElem?_eq_some_iff.1 hj).1
      simpa [bytesV] using this
    have e : (⟨g, off, none⟩ : Addr).add j = ⟨g, off + j, none⟩ := by unfold Addr.add; split <;> simp_all
    rw [e, hm j hj']
    simp only [bytesV, List.getElem?_map, List.getElem?_eq_getElem hj', Option.map_some, Option.some.injEq] at hj
    rw [← hj]
    unfold at_ byteV
    rw [List.getD_eq_getElem?_getD, List.getElem?_eq_getElem hj']
    rfl
  · unfold maxLen; omega
  · intro v' w' h1 h2 _
    refine hK v' w' ?_ h2
    unfold OwnB
    rw [bytesV_append, List.length_append]
    exact h1

/-- a store into one cell of a block -/
theorem wp_storeF {ops : Array Oper} {rest : List Oper} {op : Oper} {a : Act} {Q : Exit → Act → World → Prop} (w : World) (hgd : op.guard = none) (t : TypeId) (x y : Operand) (ho : op.op = .store t x y)
    (hsz : (Tryd.prog.info? t).map (·.size) = some 1) (p i : Nat) (T : TypeId) (cs : Array Value) (v : Value) (h : w.heap[p]? = some (.cells cs T (0, 0))) (hx : a.eval x = .pointer (some ⟨p, i, none⟩)) (hy : a.eval y = v) (hi : i < cs.size) (hv : v.cells = #[v]) (h1 : v.oneCell' = true)
    (hK : ∀ w', w'.heap[p]? = some (.cells (cs.setIfInBounds i v) T (0, 0)) → w'.heap.size = w.heap.size → w.grownBy w' (some p) → wpList Tryd.prog ops Q rest (a.put op.dst undef) w') : wpList Tryd.prog ops Q (op :: rest) a w := by
  refine wpList_plain hgd fun K hK' => ?_
  obtain ⟨i0, hi0, hz1⟩ := Option.map_eq_some_iff.1 hsz
  have hst := run_storeCells_at Tryd.prog p i T [v] 0 _ w h (by simp; omega) (by intro u hu; simp at hu; subst hu; exact h1)
  have hrun : (Instr.storeAt t (.pointer (some ⟨p, i, none⟩)) v).run Tryd.prog w =
      .ok () (w.setRow p (cs.toList.take i ++ [v] ++ cs.toList.drop (i + 1)).toArray) := by
    simp only [Nat.add_zero] at hst
    simp [Instr.storeAt, Instr.sureAddr, storeVar, sizeOf, typeInfo, hi0, hz1, hv]
    rw [hst]
    simp
  unfold Oper.wp execOp
  simp only [ho, hx, hy, Sem.run_bind, Sem.run_pure, Result.andThen_ok, hrun]
  refine hK' _ _ (hK _ ?_ (by simp [World.setRow]) ⟨rfl, rfl, rfl, by simp [World.setRow], fun k _ hk => setRow_other w p k _ (fun e => hk (by rw [e]))⟩)
  rw [setRow_heap w p _ _ _ _ h]
  congr 2
  apply Array.ext'
  rw [Array.toList_setIfInBounds]
  rw [List.set_eq_take_append_cons_drop]
  simp [hi]
end Mm
end Go.Proofs.YtakldjdohgmeiaaDoor
