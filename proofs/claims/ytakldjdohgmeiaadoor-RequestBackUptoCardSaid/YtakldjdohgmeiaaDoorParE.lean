/- A parser's word: Go's word. Conditions stand in each law. -/
import Derived.Test.YtakldjdohgmeiaaDoorParD
import Derived.Maps.AppendAt
namespace Go.Proofs.YtakldjdohgmeiaaDoor
open Go.RowKit
set_option maxRecDepth 20000

theorem Tryd.info_strs : (Tryd.prog.info? 22).map (fun i => (i.zero, i.size, i.bytes)) = some (some (.slice none 0 0), 1, 24) := by kernel_rfl
namespace Pl
theorem at_is {l : List UInt8} {n k : Nat} (h : n < l.length) (hk : k < 256) : l[n]? = some (UInt8.ofNat k) ↔ (at_ l n == (k : Int)) = true := by
  have e : at_ l n = ((l[n]'h).toNat : Int) := by
    unfold at_
    rw [List.getD_eq_getElem?_getD, List.getElem?_eq_getElem h]
    rfl
  rw [List.getElem?_eq_getElem h, e, beq_iff_eq]
  constructor
  · intro hh
    injection hh with hh
    rw [hh]
    simp
    omega
  · intro hh
    congr 1
    apply UInt8.toNat_inj.1
    simp
    omega
end Pl
namespace Mm
open Pl
theorem frozenOf {w : World} {p i : Nat} {cs : Array Value} {T : TypeId} (h : w.heap[p]? = some (.cells cs T (0, 0))) : w.frozen? ⟨p, i, none⟩ = false := by
  unfold World.frozen?
  rw [h]
  simp
theorem heapSet {w : World} {p : Nat} {cs : Array Value} {T : TypeId} {z : Nat × Nat} (h : w.heap[p]? = some (.cells cs T z)) (i : Nat) (u : Value) : (w.setCell ⟨p, i, none⟩ u).heap[p]? = some (.cells (cs.setIfInBounds i u) T z) := by
  simp [World.setCell, Array.getElem?_modify, h]
theorem grownSet (w : World) (p i : Nat) (u : Value) : w.grownBy (w.setCell ⟨p, i, none⟩ u) (some p) :=
  ⟨rfl, rfl, rfl, by simp [World.setCell], fun k _ hk => Below.heap_setCell w _ u k (fun e => hk (by rw [e]))⟩
/-- what a call that appended to one row and stored to the parser's own block leaves as it was -/
theorem far (w : World) (o : Obj) {w6 w8 : World} {p : Nat} {r : Value} (hg : (w.drew.alloc o).grownBy w6 r.ownBlock) (h8 : w6.grownBy w8 (some p)) {g : Nat} (hg0 : g < w.heap.size) (h1 : p + 1 ≤ g) (h2 : r.ownBlock ≠ some g) : w8.heap[g]? = w.heap[g]? := by
  have hs : (w.drew.alloc o).heap.size = w.heap.size + 1 := by simp
  have h6 := hg.size
  rw [h8.block g (by omega) (fun e => by injection e with e; omega), hg.block g (by omega) (fun e => h2 e.symm)]
  exact Below.heap_alloc w.drew o g hg0
theorem PV.words {w w6 w8 : World} {o : Obj} {p : Nat} {bv wv rv ev v6 : Value} {st st' : Pst} {rows : List Value} {x : List UInt8} (h : PV w p bv st wv rv ev rows) (ho : OwnS w6 (p + 1) v6 (st.words ++ [x])) (hg : (w.drew.alloc o).grownBy w6 wv.ownBlock)
    (hat : v6.ownBlock = wv.ownBlock ∨ v6.ownBlock = some (w.drew.alloc o).heap.size) (h8 : w6.grownBy w8 (some p)) (hp : w8.heap[p]? = some (.cells (cellsP bv v6 rv ev st') 90 (0, 0)))
    (h1 : st'.words = st.words ++ [x]) (h2 : st'.ready = st.ready) (h3 : st'.err = st.err) : PV w8 p bv st' v6 rv ev rows := by
  have hs : (w.drew.alloc o).heap.size = w.heap.size + 1 := by simp
  refine ⟨hp, ?_, ?_, ?_, ?_, ?_, by rw [h3]; exact h.2.2.2.2.2.2⟩
  · rw [h1]
    exact ho.keep fun g hg' => h8.block g (ho.lt g hg').2 (fun e => by injection e with e; have := (ho.lt g hg').1; omega)
  · exact ownsRow_keep h.2.2.1 fun g hg' => far w o hg h8 (h.2.2.1.lt g hg').2 (h.2.2.1.lt g hg').1 (fun e => h.2.2.2.2.1 g e hg')
  · rw [h2]
    exact h.2.2.2.1.keep fun v hv g hg' => by
      obtain ⟨l, hl⟩ := h.2.2.2.1.row hv
      exact far w o hg h8 (hl.lt g hg').2 (hl.lt g hg').1 (fun e => (h.2.2.2.2.2.1 v hv).1 g hg' e)
  · intro g hg1 hg2
    rcases hat with e | e
    · rw [e] at hg1
      exact h.2.2.2.2.1 g hg1 hg2
    · rw [e] at hg1
      injection hg1 with hg1
      have := (h.2.2.1.lt g hg2).2
      omega
  · intro v hv
    refine ⟨fun g hg1 hg2 => ?_, (h.2.2.2.2.2.1 v hv).2⟩
    rcases hat with e | e
    · rw [e] at hg2
      exact (h.2.2.2.2.2.1 v hv).1 g hg1 hg2
    · rw [e] at hg2
      injection hg2 with hg2
      obtain ⟨l, hl⟩ := h.2.2.2.1.row hv
      have := (hl.lt g hg1).2
      omega
theorem PV.readied {w w6 w8 : World} {o : Obj} {p : Nat} {bv wv rv ev v6 : Value} {st st' : Pst} {rows : List Value} (h : PV w p bv st wv rv ev rows) (ho : w6.ownsRow (p + 1) 22 1 v6 (rows ++ [wv]).length (rows ++ [wv])) (hg : (w.drew.alloc o).grownBy w6 rv.ownBlock)
    (hat : v6.ownBlock = rv.ownBlock ∨ v6.ownBlock = some (w.drew.alloc o).heap.size) (h8 : w6.grownBy w8 (some p)) (hp : w8.heap[p]? = some (.cells (cellsP bv (.slice none 0 0) v6 ev st') 90 (0, 0)))
    (h1 : st'.words = []) (h2 : st'.ready = st.ready ++ [st.words]) (h3 : st'.err = st.err) : PV w8 p bv st' (.slice none 0 0) v6 ev (rows ++ [wv]) := by
  have hs : (w.drew.alloc o).heap.size = w.heap.size + 1 := by simp
  have hrow : ∀ v ∈ rows ++ [wv], (∃ l, OwnS w (p + 1) v l) ∧ noA v rv := by
    intro v hv
    rcases List.mem_append.1 hv with hv | hv
    · exact ⟨h.2.2.2.1.row hv, (h.2.2.2.2.2.1 v hv).2⟩
    · obtain rfl : v = wv := by simpa using hv
      exact ⟨⟨_, h.2.1⟩, h.2.2.2.2.1⟩
  refine ⟨hp, by rw [h1]; exact ownS_nil _ _, ?_, ?_, fun g hg => (by cases hg), ?_, by rw [h3]; exact h.2.2.2.2.2.2⟩
  · exact ownsRow_keep ho fun g hg' => h8.block g (ho.lt g hg').2 (fun e => by injection e with e; have := (ho.lt g hg').1; omega)
  · have k : Rdy w (p + 1) (rows ++ [wv]) (st.ready ++ [st.words]) := by
      refine ⟨by simp [h.2.2.2.1.1], fun i l hl => ?_⟩
      rcases Nat.lt_or_ge i st.ready.length with hi | hi
      · rw [List.getElem?_append_left hi] at hl
        obtain ⟨v, e1, e2⟩ := h.2.2.2.1.2 i l hl
        exact ⟨v, by rw [List.getElem?_append_left (by rw [h.2.2.2.1.1]; exact hi)]; exact e1, e2⟩
      · rw [List.getElem?_append_right hi] at hl
        have h0 : i - st.ready.length = 0 := by
          have := (List.getElem?_eq_some_iff.1 hl).1
          simp at this
          omega
        rw [h0] at hl
        obtain rfl : st.words = l := by simpa using hl
        refine ⟨wv, ?_, h.2.1⟩
        rw [List.getElem?_append_right (by rw [h.2.2.2.1.1]; exact hi), h.2.2.2.1.1, h0]
        rfl
    rw [h2]
    exact k.keep fun v hv g hg' => by
      obtain ⟨⟨l, hl⟩, hn⟩ := hrow v hv
      exact far w o hg h8 (hl.lt g hg').2 (hl.lt g hg').1 (fun e => hn g hg' e)
  · intro v hv
    obtain ⟨⟨l, hl⟩, hn⟩ := hrow v hv
    refine ⟨fun g _ hg2 => (by cases hg2), fun g hg1 hg2 => ?_⟩
    rcases hat with e | e
    · rw [e] at hg2
      exact hn g hg1 hg2
    · rw [e] at hg2
      injection hg2 with hg2
      have := (hl.lt g hg1).2
      omega
theorem chgW {w w6 w8 : World} {o : Obj} {p : Nat} {wv rv v6 : Value} {rows : List Value} (hg : (w.drew.alloc o).grownBy w6 wv.ownBlock) (hat : v6.ownBlock = wv.ownBlock ∨ v6.ownBlock = some (w.drew.alloc o).heap.size) (h8 : w6.grownBy w8 (some p)) : Chg w (foot p wv rv rows) w8 (foot p v6 rv rows) := by
  have hs : (w.drew.alloc o).heap.size = w.heap.size + 1 := by simp
  have h6 := hg.size
  have h7 := h8.size
  refine ⟨h8.os.trans hg.os, h8.tape.trans (hg.tape.trans rfl), h8.output.trans hg.output, by omega, fun g hg0 hf => ?_, fun g hg' => ?_⟩
  · rw [h8.block g (by omega) (fun e => by injection e with e; exact hf (.inl e)), hg.block g (by omega) (fun e => hf (.inr (.inl e.symm)))]
    exact Below.heap_alloc w.drew o g hg0
  · rcases hg' with e | e | e
    · exact .inl (.inl e)
    · rcases hat with h | h
      · exact .inl (.inr (.inl (by rw [← h]; exact e)))
      · rw [h] at e
        injection e with e
        exact .inr (by omega)
    · exact .inl (.inr (.inr e))
theorem chgR {w w6 w8 : World} {o : Obj} {p : Nat} {wv rv v6 : Value} {rows : List Value} (hg : (w.drew.alloc o).grownBy w6 rv.ownBlock) (hat : v6.ownBlock = rv.ownBlock ∨ v6.ownBlock = some (w.drew.alloc o).heap.size) (h8 : w6.grownBy w8 (some p)) : Chg w (foot p wv rv rows) w8 (foot p (.slice none 0 0) v6 (rows ++ [wv])) := by
  have hs : (w.drew.alloc o).heap.size = w.heap.size + 1 := by simp
  have h6 := hg.size
  have h7 := h8.size
  refine ⟨h8.os.trans hg.os, h8.tape.trans (hg.tape.trans rfl), h8.output.trans hg.output, by omega, fun g hg0 hf => ?_, fun g hg' => ?_⟩
  · rw [h8.block g (by omega) (fun e => by injection e with e; exact hf (.inl e)), hg.block g (by omega) (fun e => hf (.inr (.inr (.inl e.symm))))]
    exact Below.heap_alloc w.drew o g hg0
  · rcases hg' with e | e | e | ⟨v, hv, e⟩
    · exact .inl (.inl e)
    · cases e
    · rcases hat with h | h
      · exact .inl (.inr (.inr (.inl (by rw [← h]; exact e))))
      · rw [h] at e
        injection e with e
        exact .inr (by omega)
    · rcases List.mem_append.1 hv with hv | hv
      · exact .inl (.inr (.inr (.inr ⟨v, hv, e⟩)))
      · obtain rfl : v = wv := by simpa using hv
        exact .inl (.inr (.inl e))
theorem run_app1 (w1 w : World) (ty t e : TypeId) (bytes : Nat) (z : Value) (hz0 : z.cells.size = 1) (hi : (Tryd.prog.info? e).map (fun i => (i.zero, i.size, i.bytes)) = some (some z, 1, bytes)) (ht : Tryd.prog.underlying t = some (.slice e))
    (u : Value) (hw : w = w1.alloc (.cells #[u] e)) (base : Nat) (v : Value) (xs : List Value) (h : w1.ownsRow base e 1 v xs.length xs) (hu : u.oneCell' = true) (hl : xs.length + 1 ≤ maxLen) (hb : (xs.length + 1) * bytes ≤ 140737488355328) (hbase : base ≤ w1.heap.size) :
    ∃ v' w', (Builtin.append_ #[t, t] ty #[v, .slice (some ⟨w1.heap.size, 0, none⟩) 1 1]).run Tryd.prog w = .ok v' w' ∧ w'.ownsRow base e 1 v' (xs ++ [u]).length (xs ++ [u]) ∧ w.grownBy w' v.ownBlock ∧ (v'.ownBlock = v.ownBlock ∨ v'.ownBlock = some w.heap.size) := by
  subst hw
  obtain ⟨i0, h1, h2, h3, h4⟩ := info_parts hi
  obtain ⟨v', w', hr, r1, r2, _, r4⟩ := run_append_own_at (P := Tryd.prog) (w1.alloc (.cells #[u] e)) base t ty e i0 z 1 bytes ht h1 h2 h3 h4 hz0 (by decide) v xs.length xs (h.alloc _) ⟨w1.heap.size, 0, none⟩ 1 1 [u] rfl
    (cell_one_new _ _ _) (by intro x hx; simp at hx; subst hx; exact hu) hl hb (by simp; omega)
  exact ⟨v', w', hr, by rw [List.length_append]; exact r1, r2, r4⟩
theorem wp0_app1 {o : Oper} {a : Act} {K : Act → World → Prop} {Q : Exit → Act → World → Prop} (w : World) (x y : Operand) (t e : TypeId) (bytes : Nat) (z : Value) (hz0 : z.cells.size = 1) (hi : (Tryd.prog.info? e).map (fun i => (i.zero, i.size, i.bytes)) = some (some z, 1, bytes)) (ht : Tryd.prog.underlying t = some (.slice e))
    (ho : o.op = .call { callee := .builtin .append, args := #[x, y], argTypes := #[t, t] })
    (w1 : World) (u : Value) (base : Nat) (v : Value) (xs : List Value) (hx : a.eval x = v) (h : w1.ownsRow base e 1 v xs.length xs) (hu : u.oneCell' = true) (hy : a.eval y = .slice (some ⟨w1.heap.size, 0, none⟩) 1 1) (hw : w = w1.alloc (.cells #[u] e))
    (hl : xs.length + 1 ≤ maxLen) (hb : (xs.length + 1) * bytes ≤ 140737488355328) (hbase : base ≤ w1.heap.size)
    (hK : ∀ v' w', w'.ownsRow base e 1 v' (xs ++ [u]).length (xs ++ [u]) → w.grownBy w' v.ownBlock → (v'.ownBlock = v.ownBlock ∨ v'.ownBlock = some w.heap.size) → K (a.put o.dst v') w') : o.wp Tryd.prog a w K Q := by
  obtain ⟨v', w', hr, h2, h3, h4⟩ := run_app1 w1 w o.type t e bytes z hz0 hi ht u hw base v xs h hu hl hb hbase
  unfold Oper.wp execOp
  simp only [ho, resolve, invoke, builtin, Sem.run_bind, Sem.run_pure, Result.andThen_ok, List.map_toArray, List.map_cons, List.map_nil, hx, hy, hr]
  exact hK v' w' h2 h3 h4
/-- 'append(words, s)' in a region that draws its order -/
theorem step_appS {ops : Array Oper} {o : Oper} {a : Act} {K : Act → World → Prop} {Q : Exit → Act → World → Prop} {E : Prop} (w : World) (hgd : o.guard = none) (x y : Operand)
    (ho : o.op = .call { callee := .builtin .append, args := #[x, y], argTypes := #[22, 22] })
    (w1 : World) (s : ByteArray) (base : Nat) (v : Value) (l : List (List UInt8)) (hx : a.eval x = v) (h : OwnS w1 base v l) (hy : a.eval y = .slice (some ⟨w1.heap.size, 0, none⟩) 1 1) (hw : w = w1.alloc (.cells #[.string s] 9))
    (hl : l.length < 8796093022207) (hbase : base ≤ w1.heap.size)
    (hK : ∀ v' w', OwnS w' base v' (l ++ [L s]) → w.grownBy w' v.ownBlock → (v'.ownBlock = v.ownBlock ∨ v'.ownBlock = some w.heap.size) → K (a.put o.dst v') w') :
    if Region.wanted o (yielded ops a.tmps) = true then Oper.wp Tryd.prog o a w K Q else E := by
  have hwd : Region.wanted o (yielded ops a.tmps) = true := by simp [Region.wanted, hgd]
  rw [if_pos hwd]
  have hlen : (strsV l).length = l.length := by simp [strsV]
  refine wp0_app1 w x y 22 9 16 (.string ⟨#[]⟩) rfl Tryd.info_str Tryd.underlying22 ho w1 (.string s) base v (strsV l) hx (by rw [hlen]; exact h) rfl hy hw (by rw [hlen]; unfold maxLen; omega) (by rw [hlen]; omega) hbase fun v' w' h1 h2 h3 => hK v' w' ?_ h2 h3
  unfold OwnS
  have e : strsV (l ++ [L s]) = strsV l ++ [.string s] := by rw [strsV_append]; simp [strsV, B_L]
  rw [e]
  have e2 : (l ++ [L s]).length = (strsV l ++ [Value.string s]).length := by simp [hlen]
  rw [e2]
  exact h1
/-- 'append(ready, words)' in a region that draws its order -/
theorem step_appC {ops : Array Oper} {o : Oper} {a : Act} {K : Act → World → Prop} {Q : Exit → Act → World → Prop} {E : Prop} (w : World) (hgd : o.guard = none) (x y : Operand)
    (ho : o.op = .call { callee := .builtin .append, args := #[x, y], argTypes := #[65, 65] })
    (w1 : World) (u : Value) (hu : u.oneCell' = true) (base : Nat) (v : Value) (xs : List Value) (hx : a.eval x = v) (h : w1.ownsRow base 22 1 v xs.length xs) (hy : a.eval y = .slice (some ⟨w1.heap.size, 0, none⟩) 1 1) (hw : w = w1.alloc (.cells #[u] 22))
    (hl : xs.length < 4398046511103) (hbase : base ≤ w1.heap.size)
    (hK : ∀ v' w', w'.ownsRow base 22 1 v' (xs ++ [u]).length (xs ++ [u]) → w.grownBy w' v.ownBlock → (v'.ownBlock = v.ownBlock ∨ v'.ownBlock = some w.heap.size) → K (a.put o.dst v') w') :
    if Region.wanted o (yielded ops a.tmps) = true then Oper.wp Tryd.prog o a w K Q else E := by
  have hwd : Region.wanted o (yielded ops a.tmps) = true := by simp [Region.wanted, hgd]
  rw [if_pos hwd]
  exact wp0_app1 w x y 65 22 24 (.slice none 0 0) rfl Tryd.info_strs Tryd.underlying65 ho w1 u base v xs hx h hu hy hw (by unfold maxLen; omega) (by omega) hbase hK
end Mm

end Go.Proofs.YtakldjdohgmeiaaDoor
