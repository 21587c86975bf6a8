/- A parser's word: Go's word. Conditions stand in each law. A parser's word: Go's word. Conditions stand in the law. A parser's inline and part: Go's inline, part. Conditions stand in each law. A parser's part: Go's part; what a step does to the state, in plain Lean. Conditions stand in each law. Conditions stand in each law. -/
import Derived.Test.YtakldjdohgmeiaaDoorBuReplyMakes5
import Derived.Maps.AppendAt
namespace Go.Proofs.YtakldjdohgmeiaaDoor
open Go.RowKit
set_option maxRecDepth 20000

theorem Tryd.info_strs : (Tryd.prog.info? 22).map (fun i => (i.zero, i.size, i.bytes)) = some (some (.slice none 0 0), 1, 24) := by kernel_rfl
namespace Pl
theorem at_is {l : List UInt8} {n k : Nat} (h : n < l.length) (hk : k < 256) : l[n]? = some (UInt8.ofNat k) ↔ (at_ l n == (k : Int)) = true := by
  have e : at_ l n = ((l[n]'h).toNat : Int) := by
    unfold at_
    rw [List.getD_eq_getElem?_getD, List.getElem?_eq_getElem h]
    rfl
  rw [List.getElem?_eq_getElem h, e, beq_iff_eq]
  constructor
  · intro hh
    injection hh with hh
    rw [hh]
    simp
    omega
  · intro hh
    congr 1
    apply UInt8.toNat_inj.1
    simp
    omega
end Pl
namespace Mm
open Pl
theorem frozenOf {w : World} {p i : Nat} {cs : Array Value} {T : TypeId} (h : w.heap[p]? = some (.cells cs T (0, 0))) : w.frozen? ⟨p, i, none⟩ = false := by
  unfold World.frozen?
  rw [h]
  simp
theorem heapSet {w : World} {p : Nat} {cs : Array Value} {T : TypeId} {z : Nat × Nat} (h : w.heap[p]? = some (.cells cs T z)) (i : Nat) (u : Value) : (w.setCell ⟨p, i, none⟩ u).heap[p]? = some (.cells (cs.setIfInBounds i u) T z) := by
  simp [World.setCell, Array.getElem?_modify, h]
theorem grownSet (w : World) (p i : Nat) (u : Value) : w.grownBy (w.setCell ⟨p, i, none⟩ u) (some p) :=
  ⟨rfl, rfl, rfl, by simp [World.setCell], fun k _ hk => Below.heap_setCell w _ u k (fun e => hk (by rw [e]))⟩
/-- what a call that appended to one row and stored to the parser's own block leaves as it was -/
theorem far (w : World) (o : Obj) {w6 w8 : World} {p : Nat} {r : Value} (hg : (w.drew.alloc o).grownBy w6 r.ownBlock) (h8 : w6.grownBy w8 (some p)) {g : Nat} (hg0 : g < w.heap.size) (h1 : p + 1 ≤ g) (h2 : r.ownBlock ≠ some g) : w8.heap[g]? = w.heap[g]? := by
  have hs : (w.drew.alloc o).heap.size = w.heap.size + 1 := by simp
  have h6 := hg.size
  rw [h8.block g (by omega) (fun e => by injection e with e; omega), hg.block g (by omega) (fun e => h2 e.symm)]
  exact Below.heap_alloc w.drew o g hg0
theorem PV.words {w w6 w8 : World} {o : Obj} {p : Nat} {bv wv rv ev v6 : Value} {st st' : Pst} {rows : List Value} {x : List UInt8} (h : PV w p bv st wv rv ev rows) (ho : OwnS w6 (p + 1) v6 (st.words ++ [x])) (hg : (w.drew.alloc o).grownBy w6 wv.ownBlock)
    (hat : v6.ownBlock = wv.ownBlock ∨ v6.ownBlock = some (w.drew.alloc o).heap.size) (h8 : w6.grownBy w8 (some p)) (hp : w8.heap[p]? = some (.cells (cellsP bv v6 rv ev st') 90 (0, 0)))
    (h1 : st'.words = st.words ++ [x]) (h2 : st'.ready = st.ready) (h3 : st'.err = st.err) : PV w8 p bv st' v6 rv ev rows := by
  have hs : (w.drew.alloc o).heap.size = w.heap.size + 1 := by simp
  refine ⟨hp, ?_, ?_, ?_, ?_, ?_, by rw [h3]; exact h.2.2.2.2.2.2⟩
  · rw [h1]
    exact ho.keep fun g hg' => h8.block g (ho.lt g hg').2 (fun e => by injection e with e; have := (ho.lt g hg').1; omega)
  · exact ownsRow_keep h.2.2.1 fun g hg' => far w o hg h8 (h.2.2.1.lt g hg').2 (h.2.2.1.lt g hg').1 (fun e => h.2.2.2.2.1 g e hg')
  · rw [h2]
    exact h.2.2.2.1.keep fun v hv g hg' => by
      obtain ⟨l, hl⟩ := h.2.2.2.1.row hv
      exact far w o hg h8 (hl.lt g hg').2 (hl.lt g hg').1 (fun e => (h.2.2.2.2.2.1 v hv).1 g hg' e)
  · intro g hg1 hg2
    rcases hat with e | e
    · rw [e] at hg1
      exact h.2.2.2.2.1 g hg1 hg2
    · rw [e] at hg1
      injection hg1 with hg1
      have := (h.2.2.1.lt g hg2).2
      omega
  · intro v hv
    refine ⟨fun g hg1 hg2 => ?_, (h.2.2.2.2.2.1 v hv).2⟩
    rcases hat with e | e
    · rw [e] at hg2
      exact (h.2.2.2.2.2.1 v hv).1 g hg1 hg2
    · rw [e] at hg2
      injection hg2 with hg2
      obtain ⟨l, hl⟩ := h.2.2.2.1.row hv
      have := (hl.lt g hg1).2
      omega
theorem PV.readied {w w6 w8 : World} {o : Obj} {p : Nat} {bv wv rv ev v6 : Value} {st st' : Pst} {rows : List Value} (h : PV w p bv st wv rv ev rows) (ho : w6.ownsRow (p + 1) 22 1 v6 (rows ++ [wv]).length (rows ++ [wv])) (hg : (w.drew.alloc o).grownBy w6 rv.ownBlock)
    (hat : v6.ownBlock = rv.ownBlock ∨ v6.ownBlock = some (w.drew.alloc o).heap.size) (h8 : w6.grownBy w8 (some p)) (hp : w8.heap[p]? = some (.cells (cellsP bv (.slice none 0 0) v6 ev st') 90 (0, 0)))
    (h1 : st'.words = []) (h2 : st'.ready = st.ready ++ [st.words]) (h3 : st'.err = st.err) : PV w8 p bv st' (.slice none 0 0) v6 ev (rows ++ [wv]) := by
  have hs : (w.drew.alloc o).heap.size = w.heap.size + 1 := by simp
  have hrow : ∀ v ∈ rows ++ [wv], (∃ l, OwnS w (p + 1) v l) ∧ noA v rv := by
    intro v hv
    rcases List.mem_append.1 hv with hv | hv
    · exact ⟨h.2.2.2.1.row hv, (h.2.2.2.2.2.1 v hv).2⟩
    · obtain rfl : v = wv := by simpa using hv
      exact ⟨⟨_, h.2.1⟩, h.2.2.2.2.1⟩
  refine ⟨hp, by rw [h1]; exact ownS_nil _ _, ?_, ?_, fun g hg => (by cases hg), ?_, by rw [h3]; exact h.2.2.2.2.2.2⟩
  · exact ownsRow_keep ho fun g hg' => h8.block g (ho.lt g hg').2 (fun e => by injection e with e; have := (ho.lt g hg').1; omega)
  · have k : Rdy w (p + 1) (rows ++ [wv]) (st.ready ++ [st.words]) := by
      refine ⟨by simp [h.2.2.2.1.1], fun i l hl => ?_⟩
      rcases Nat.lt_or_ge i st.ready.length with hi | hi
      · rw [List.getElem?_append_left hi] at hl
        obtain ⟨v, e1, e2⟩ := h.2.2.2.1.2 i l hl
        exact ⟨v, by rw [List.getElem?_append_left (by rw [h.2.2.2.1.1]; exact hi)]; exact e1, e2⟩
      · rw [List.getElem?_append_right hi] at hl
        have h0 : i - st.ready.length = 0 := by
          have := (List.getElem?_eq_some_iff.1 hl).1
          simp at this
          omega
        rw [h0] at hl
        obtain rfl : st.words = l := by simpa using hl
        refine ⟨wv, ?_, h.2.1⟩
        rw [List.getElem?_append_right (by rw [h.2.2.2.1.1]; exact hi), h.2.2.2.1.1, h0]
        rfl
    rw [h2]
    exact k.keep fun v hv g hg' => by
      obtain ⟨⟨l, hl⟩, hn⟩ := hrow v hv
      exact far w o hg h8 (hl.lt g hg').2 (hl.lt g hg').1 (fun e => hn g hg' e)
  · intro v hv
    obtain ⟨⟨l, hl⟩, hn⟩ := hrow v hv
    refine ⟨fun g _ hg2 => (by cases hg2), fun g hg1 hg2 => ?_⟩
    rcases hat with e | e
    · rw [e] at hg2
      exact hn g hg1 hg2
    · rw [e] at hg2
      injection hg2 with hg2
      have := (hl.lt g hg1).2
      omega
theorem chgW {w w6 w8 : World} {o : Obj} {p : Nat} {wv rv v6 : Value} {rows : List Value} (hg : (w.drew.alloc o).grownBy w6 wv.ownBlock) (hat : v6.ownBlock = wv.ownBlock ∨ v6.ownBlock = some (w.drew.alloc o).heap.size) (h8 : w6.grownBy w8 (some p)) : Chg w (foot p wv rv rows) w8 (foot p v6 rv rows) := by
  have hs : (w.drew.alloc o).heap.size = w.heap.size + 1 := by simp
  have h6 := hg.size
  have h7 := h8.size
  refine ⟨h8.os.trans hg.os, h8.tape.trans (hg.tape.trans rfl), h8.output.trans hg.output, by omega, fun g hg0 hf => ?_, fun g hg' => ?_⟩
  · rw [h8.block g (by omega) (fun e => by injection e with e; exact hf (.inl e)), hg.block g (by omega) (fun e => hf (.inr (.inl e.symm)))]
    exact Below.heap_alloc w.drew o g hg0
  · rcases hg' with e | e | e
    · exact .inl (.inl e)
    · rcases hat with h | h
      · exact .inl (.inr (.inl (by rw [← h]; exact e)))
      · rw [h] at e
        injection e with e
        exact .inr (by omega)
    · exact .inl (.inr (.inr e))
theorem chgR {w w6 w8 : World} {o : Obj} {p : Nat} {wv rv v6 : Value} {rows : List Value} (hg : (w.drew.alloc o).grownBy w6 rv.ownBlock) (hat : v6.ownBlock = rv.ownBlock ∨ v6.ownBlock = some (w.drew.alloc o).heap.size) (h8 : w6.grownBy w8 (some p)) : Chg w (foot p wv rv rows) w8 (foot p (.slice none 0 0) v6 (rows ++ [wv])) := by
  have hs : (w.drew.alloc o).heap.size = w.heap.size + 1 := by simp
  have h6 := hg.size
  have h7 := h8.size
  refine ⟨h8.os.trans hg.os, h8.tape.trans (hg.tape.trans rfl), h8.output.trans hg.output, by omega, fun g hg0 hf => ?_, fun g hg' => ?_⟩
  · rw [h8.block g (by omega) (fun e => by injection e with e; exact hf (.inl e)), hg.block g (by omega) (fun e => hf (.inr (.inr (.inl e.symm))))]
    exact Below.heap_alloc w.drew o g hg0
  · rcases hg' with e | e | e | ⟨v, hv, e⟩
    · exact .inl (.inl e)
    · cases e
    · rcases hat with h | h
      · exact .inl (.inr (.inr (.inl (by rw [← h]; exact e))))
      · rw [h] at e
        injection e with e
        exact .inr (by omega)
    · rcases List.mem_append.1 hv with hv | hv
      · exact .inl (.inr (.inr (.inr ⟨v, hv, e⟩)))
      · obtain rfl : v = wv := by simpa using hv
        exact .inl (.inr (.inl e))
theorem run_app1 (w1 w : World) (ty t e : TypeId) (bytes : Nat) (z : Value) (hz0 : z.cells.size = 1) (hi : (Tryd.prog.info? e).map (fun i => (i.zero, i.size, i.bytes)) = some (some z, 1, bytes)) (ht : Tryd.prog.underlying t = some (.slice e))
    (u : Value) (hw : w = w1.alloc (.cells #[u] e)) (base : Nat) (v : Value) (xs : List Value) (h : w1.ownsRow base e 1 v xs.length xs) (hu : u.oneCell' = true) (hl : xs.length + 1 ≤ maxLen) (hb : (xs.length + 1) * bytes ≤ 140737488355328) (hbase : base ≤ w1.heap.size) :
    ∃ v' w', (Builtin.append_ #[t, t] ty #[v, .slice (some ⟨w1.heap.size, 0, none⟩) 1 1]).run Tryd.prog w = .ok v' w' ∧ w'.ownsRow base e 1 v' (xs ++ [u]).length (xs ++ [u]) ∧ w.grownBy w' v.ownBlock ∧ (v'.ownBlock = v.ownBlock ∨ v'.ownBlock = some w.heap.size) := by
  subst hw
  obtain ⟨i0, h1, h2, h3, h4⟩ := info_parts hi
  obtain ⟨v', w', hr, r1, r2, _, r4⟩ := run_append_own_at (P := Tryd.prog) (w1.alloc (.cells #[u] e)) base t ty e i0 z 1 bytes ht h1 h2 h3 h4 hz0 (by decide) v xs.length xs (h.alloc _) ⟨w1.heap.size, 0, none⟩ 1 1 [u] rfl
    (cell_one_new _ _ _) (by intro x hx; simp at hx; subst hx; exact hu) hl hb (by simp; omega)
  exact ⟨v', w', hr, by rw [List.length_append]; exact r1, r2, r4⟩
theorem wp0_app1 {o : Oper} {a : Act} {K : Act → World → Prop} {Q : Exit → Act → World → Prop} (w : World) (x y : Operand) (t e : TypeId) (bytes : Nat) (z : Value) (hz0 : z.cells.size = 1) (hi : (Tryd.prog.info? e).map (fun i => (i.zero, i.size, i.bytes)) = some (some z, 1, bytes)) (ht : Tryd.prog.underlying t = some (.slice e))
    (ho : o.op = .call { callee := .builtin .append, args := #[x, y], argTypes := #[t, t] })
    (w1 : World) (u : Value) (base : Nat) (v : Value) (xs : List Value) (hx : a.eval x = v) (h : w1.ownsRow base e 1 v xs.length xs) (hu : u.oneCell' = true) (hy : a.eval y = .slice (some ⟨w1.heap.size, 0, none⟩) 1 1) (hw : w = w1.alloc (.cells #[u] e))
    (hl : xs.length + 1 ≤ maxLen) (hb : (xs.length + 1) * bytes ≤ 140737488355328) (hbase : base ≤ w1.heap.size)
    (hK : ∀ v' w', w'.ownsRow base e 1 v' (xs ++ [u]).length (xs ++ [u]) → w.grownBy w' v.ownBlock → (v'.ownBlock = v.ownBlock ∨ v'.ownBlock = some w.heap.size) → K (a.put o.dst v') w') : o.wp Tryd.prog a w K Q := by
  obtain ⟨v', w', hr, h2, h3, h4⟩ := run_app1 w1 w o.type t e bytes z hz0 hi ht u hw base v xs h hu hl hb hbase
  unfold Oper.wp execOp
  simp only [ho, resolve, invoke, builtin, Sem.run_bind, Sem.run_pure, Result.andThen_ok, List.map_toArray, List.map_cons, List.map_nil, hx, hy, hr]
  exact hK v' w' h2 h3 h4
/-- 'append(words, s)' in a region that draws its order -/
theorem step_appS {ops : Array Oper} {o : Oper} {a : Act} {K : Act → World → Prop} {Q : Exit → Act → World → Prop} {E : Prop} (w : World) (hgd : o.guard = none) (x y : Operand)
    (ho : o.op = .call { callee := .builtin .append, args := #[x, y], argTypes := #[22, 22] })
    (w1 : World) (s : ByteArray) (base : Nat) (v : Value) (l : List (List UInt8)) (hx : a.eval x = v) (h : OwnS w1 base v l) (hy : a.eval y = .slice (some ⟨w1.heap.size, 0, none⟩) 1 1) (hw : w = w1.alloc (.cells #[.string s] 9))
    (hl : l.length < 8796093022207) (hbase : base ≤ w1.heap.size)
    (hK : ∀ v' w', OwnS w' base v' (l ++ [L s]) → w.grownBy w' v.ownBlock → (v'.ownBlock = v.ownBlock ∨ v'.ownBlock = some w.heap.size) → K (a.put o.dst v') w') :
    if Region.wanted o (yielded ops a.tmps) = true then Oper.wp Tryd.prog o a w K Q else E := by
  have hwd : Region.wanted o (yielded ops a.tmps) = true := by simp [Region.wanted, hgd]
  rw [if_pos hwd]
  have hlen : (strsV l).length = l.length := by simp [strsV]
  refine wp0_app1 w x y 22 9 16 (.string ⟨#[]⟩) rfl Tryd.info_str Tryd.underlying22 ho w1 (.string s) base v (strsV l) hx (by rw [hlen]; exact h) rfl hy hw (by rw [hlen]; unfold maxLen; omega) (by rw [hlen]; omega) hbase fun v' w' h1 h2 h3 => hK v' w' ?_ h2 h3
  unfold OwnS
  have e : strsV (l ++ [L s]) = strsV l ++ [.string s] := by rw [strsV_append]; simp [strsV, B_L]
  rw [e]
  have e2 : (l ++ [L s]).length = (strsV l ++ [Value.string s]).length := by simp [hlen]
  rw [e2]
  exact h1
/-- 'append(ready, words)' in a region that draws its order -/
theorem step_appC {ops : Array Oper} {o : Oper} {a : Act} {K : Act → World → Prop} {Q : Exit → Act → World → Prop} {E : Prop} (w : World) (hgd : o.guard = none) (x y : Operand)
    (ho : o.op = .call { callee := .builtin .append, args := #[x, y], argTypes := #[65, 65] })
    (w1 : World) (u : Value) (hu : u.oneCell' = true) (base : Nat) (v : Value) (xs : List Value) (hx : a.eval x = v) (h : w1.ownsRow base 22 1 v xs.length xs) (hy : a.eval y = .slice (some ⟨w1.heap.size, 0, none⟩) 1 1) (hw : w = w1.alloc (.cells #[u] 22))
    (hl : xs.length < 4398046511103) (hbase : base ≤ w1.heap.size)
    (hK : ∀ v' w', w'.ownsRow base 22 1 v' (xs ++ [u]).length (xs ++ [u]) → w.grownBy w' v.ownBlock → (v'.ownBlock = v.ownBlock ∨ v'.ownBlock = some w.heap.size) → K (a.put o.dst v') w') :
    if Region.wanted o (yielded ops a.tmps) = true then Oper.wp Tryd.prog o a w K Q else E := by
  have hwd : Region.wanted o (yielded ops a.tmps) = true := by simp [Region.wanted, hgd]
  rw [if_pos hwd]
  exact wp0_app1 w x y 65 22 24 (.slice none 0 0) rfl Tryd.info_strs Tryd.underlying65 ho w1 u base v xs hx h hu hy hw (by unfold maxLen; omega) (by omega) hbase hK
end Mm

end Go.Proofs.YtakldjdohgmeiaaDoor

namespace Go.Proofs.YtakldjdohgmeiaaDoor
open Go.RowKit
set_option maxRecDepth 20000

theorem Mm.ownsRow_slice {w : World} {b : Nat} {t : TypeId} {k : Nat} {v : Value} {n : Nat} {cs : List Value} (h : w.ownsRow b t k v n cs) : ∃ a m c, v = .slice a m c := by
  rcases h.2 with ⟨rfl, _⟩ | ⟨g, cap, cur, rfl, _⟩
  · exact ⟨_, _, _, rfl⟩
  · exact ⟨_, _, _, rfl⟩

set_option maxHeartbeats 8000000 in
theorem word_walk (p g o c : Nat) (l : List UInt8) (bv : Value) (st : Pl.Pst) (F : Nat → Prop) (W w : World) (_ : W.heap.size ≤ p) (hR : Mm.RErr W) (hW : Below W.heap.size W w) (_ : l.length ≤ 140737488351232) (hc : l.length ≤ c) (h : Mm.BytesAt w g o l)
    (hp : Mm.PQ w p bv st F) (he : st.err = false) (hn0 : 0 ≤ st.need) (hn1 : st.need ≤ 1048576) (hf0 : 0 < st.left) (hf1 : st.left ≤ 1024) (hu : st.used ≤ 4503599627370496) (hwd : st.words.length ≤ 1099511627776) (hrd : st.ready.length ≤ 1099511627776) :
    Calls Tryd.prog 71 #[.pointer (some ⟨p, 0, none⟩), .slice (some ⟨g, o, none⟩) l.length c] w fun e w' => e = .returned (.int .i64 ((Pl.wordM st l).1 : Int)) ∧ ∃ F', Mm.PQ w' p bv (Pl.wordM st l).2 F' ∧ Mm.Chg w F w' F' := by
  obtain ⟨T3, x3, hx3⟩ := (hR.on hW).here 3 (by simp)
  obtain ⟨wv, rv, ev, rows, hv, hF⟩ := hp
  obtain ⟨n, hn⟩ := Int.eq_ofNat_of_zero_le hn0
  rw [hn] at hn1
  have HM := Pl.hid h
  have HV := Pl.hid hv
  have He := Pl.hid he
  have HN := Pl.hid hn
  have hpl := hv.lt
  have HPL := Pl.hid hpl
  have HF := Pl.hid hF
  have c5 := hv.cell 5 (.int .i64 (n : Int)) (by show some (Value.int .i64 st.need) = _; rw [hn])
  have HRD : Hid (rows.length ≤ 1099511627776) := by show _ ≤ _; rw [hv.2.2.2.1.1]; exact hrd
  clear hR hW h hv he hrd hF
  unfold Pl.wordM
  have htn : st.need.toNat = n := by rw [hn]; rfl
  rw [htn]
  clear htn hn hn0
  rcases Nat.lt_or_ge n l.length with h1 | h1
  · have b1 := HM.out n h1
    have h13 := Pl.at_is (l := l) (n := n) (k := 13) h1 (by decide)
    rw [show UInt8.ofNat 13 = 13 from rfl] at h13
    cases hb : (Pl.at_ l n == ((13 : Nat) : Int)) with
    | false =>
      rw [if_pos (.inl ⟨h1, fun e => by rw [h13.1 e] at hb; cases hb⟩)]
      generalize Pl.at_ l n = a0 at b1 hb
      clear h13
      have hb' : (a0 != 13) = true := by simpa [bne] using hb
      clear hb
      go_enter Tryd.func71, Tryd.ntmps71
      go_wp2_with (first | (refine Mm.wp_storeF _ rfl 53 _ _ (by rfl) (by kernel_rfl) p 7 90 (Mm.cellsP bv wv rv ev st) (.iface T3 x3) HV.out.1 (by rfl) (by rfl) (by simp [Mm.cellsP]) rfl rfl ?_; intro w3 h3 hz3 hg3; clear hz3))
      go_ret
      refine ⟨rfl, F, ⟨wv, rv, .iface T3 x3, rows, HV.out.store hg3 h3 rfl rfl (.inl ⟨rfl, _, _, rfl⟩), HF.out⟩, Mm.Chg.grown hg3 (fun g e => by rw [HF.out]; injection e with e; exact .inl e.symm) (fun _ h => .inl h)⟩
    | true =>
      rcases Nat.lt_or_ge (n + 1) l.length with h2 | h2
      · have b2 := HM.out (n + 1) h2
        have h10 := Pl.at_is (l := l) (n := n + 1) (k := 10) h2 (by decide)
        rw [show UInt8.ofNat 10 = 10 from rfl] at h10
        cases hb2 : (Pl.at_ l (n + 1) == ((10 : Nat) : Int)) with
        | false =>
          rw [if_pos (.inr ⟨h2, fun e => by rw [h10.1 e] at hb2; cases hb2⟩)]
          generalize Pl.at_ l n = a0 at b1 hb
          generalize Pl.at_ l (n + 1) = a1 at b2 hb2
          clear h13 h10
          have hb' : (a0 != 13) = false := by simpa [bne] using hb
          have hb2' : (a1 != 10) = true := by simpa [bne] using hb2
          clear hb hb2
          go_enter Tryd.func71, Tryd.ntmps71
          go_wp2_with (first | (refine Mm.wp_storeF _ rfl 53 _ _ (by rfl) (by kernel_rfl) p 7 90 (Mm.cellsP bv wv rv ev st) (.iface T3 x3) HV.out.1 (by rfl) (by rfl) (by simp [Mm.cellsP]) rfl rfl ?_; intro w3 h3 hz3 hg3; clear hz3))
          go_ret
          refine ⟨rfl, F, ⟨wv, rv, .iface T3 x3, rows, HV.out.store hg3 h3 rfl rfl (.inl ⟨rfl, _, _, rfl⟩), HF.out⟩, Mm.Chg.grown hg3 (fun g e => by rw [HF.out]; injection e with e; exact .inl e.symm) (fun _ h => .inl h)⟩
        | true =>
          rw [if_neg (by rintro (⟨_, h⟩ | ⟨_, h⟩); exact h (h13.2 hb); exact h (h10.2 hb2)), if_neg (by omega)]
          generalize Pl.at_ l n = a0 at b1 hb
          generalize Pl.at_ l (n + 1) = a1 at b2 hb2
          clear h13 h10
          have hb' : (a0 != 13) = false := by simpa [bne] using hb
          have hb2' : (a1 != 10) = false := by simpa [bne] using hb2
          clear hb hb2
          have c2 := HV.out.cell 2 wv rfl
          have hcv0 := Mm.conv_at w.drew g o n n (l.take n) (by rw [List.length_take]; omega) (HM.out.take n)
          have hnc : n ≤ c := by omega
          have hca : (w.drew.alloc (.cells #[.string (Pl.B (l.take n))] 9)).cell? ⟨p, 2, none⟩ = some wv := (World.cell?_alloc_old _ _ _ (Nat.ne_of_lt hpl)).trans c2
          have hwbig : st.words.length < 8796093022207 := by omega
          have HST : Hid (∀ w6, (w.drew.alloc (.cells #[.string (Pl.B (l.take n))] 9)).grownBy w6 wv.ownBlock → w6.heap[p]? = some (.cells (Mm.cellsP bv wv rv ev st) 90 (0, 0)) ∧ w6.cell? ⟨p, 2, none⟩ = some wv ∧ w6.frozen? ⟨p, 2, none⟩ = false) := fun w6 hg => by
            have h6 := (hg.block p (by simp; have := HPL.out; omega) (fun e => by have := (HV.out.2.1.lt p e.symm).1; omega)).trans ((Below.heap_alloc _ _ _ HPL.out).trans HV.out.1)
            exact ⟨h6, Mm.cellOf h6 rfl, Mm.frozenOf h6⟩
          obtain ⟨k, hk⟩ : ∃ k, st.left = k + 1 := ⟨st.left - 1, by omega⟩
          have HK := Pl.hid hk
          cases k with
          | zero =>
            rw [if_pos hk]
            clear hk hf0 hf1
            go_enter Tryd.func71, Tryd.ntmps71
            go_wp2_with fail
            go_region_law (refine Mm.step_appS _ (by rfl) _ _ (by rfl) w.drew (Pl.B (l.take n)) (p + 1) wv st.words (by rfl) HV.out.2.1 (by rfl) (by rfl) hwbig hpl ?_; intro v6 w6 ho6 hg6 hat6; obtain ⟨a6, k6, rfl, _⟩ := ho6.val; obtain ⟨hh6, p6, pf6⟩ := HST.out w6 hg6)
            all_goals
              have elen : (st.words ++ [Pl.L (Pl.B (l.take n))]).length = st.words.length + 1 := by simp
              rw [elen] at ho6 hat6
              have HP7 := Pl.hid (Mm.heapSet hh6 2 (.slice a6 (st.words.length + 1) k6))
              have HG7 := Pl.hid (Mm.grownSet w6 p 2 (.slice a6 (st.words.length + 1) k6))
              generalize World.setCell w6 _ _ = w7 at HP7 HG7 ⊢
              have HO6 := Pl.hid ho6
              have HG6 : Hid ((w.drew.alloc (.cells #[.string (Pl.B (l.take n))] 9)).grownBy w6 wv.ownBlock) := hg6
              have HAT6 : Hid ((Value.slice a6 (st.words.length + 1) k6).ownBlock = wv.ownBlock ∨ (Value.slice a6 (st.words.length + 1) k6).ownBlock = some (w.drew.alloc (.cells #[.string (Pl.B (l.take n))] 9)).heap.size) := hat6
              clear elen ho6 hg6 hat6 hh6 p6 pf6 hca hcv0 c2 b1 b2 c5 hb' hb2' 
            all_goals
              have d3 : w7.cell? ⟨p, 3, none⟩ = some (.int .i64 1) := Mm.cellOf (i := 3) HP7.out (by show some (Value.int .i64 (st.left : Int)) = _; rw [HK.out]; rfl)
              go_wp2_with (first
                | (refine Mm.wp_storeF _ rfl 3 _ _ (by rfl) (by kernel_rfl) p 5 90 _ _ HP7.out (by rfl) (by rfl) (by simp [Mm.cellsP]) rfl rfl ?_; intro w8 h8 hz8 hg8; have H8 := Pl.hid h8; have HG8 := Pl.hid hg8; clear h8 hz8 hg8; have d3 := Mm.cellOf (i := 3) (v := .int .i64 1) H8.out (by show some (Value.int .i64 (st.left : Int)) = _; rw [HK.out]; rfl))
                | (refine Mm.wp_storeF _ rfl 3 _ _ (by rfl) (by kernel_rfl) p 3 90 _ _ H8.out (by rfl) (by rfl) (by simp [Mm.cellsP]) rfl rfl ?_; intro w9 h9 hz9 hg9; have H9 := Pl.hid h9; have HG9 := Pl.hid hg9; clear h9 hz9 hg9; have d1 := Mm.cellOf (i := 1) (v := .int .i64 (st.used : Int)) H9.out rfl; clear d3; have d3 := Mm.cellOf (i := 3) (v := .int .i64 0) H9.out rfl)
                | (refine Mm.wp_storeF _ rfl 3 _ _ (by rfl) (by kernel_rfl) p 1 90 _ _ H9.out (by rfl) (by rfl) (by simp [Mm.cellsP]) rfl rfl ?_; intro w10 h10 hz10 hg10; have H10 := Pl.hid h10; have HG10 := Pl.hid hg10; clear h10 hz10 hg10; clear d1 d3; have d3 := Mm.cellOf (i := 3) (v := .int .i64 0) H10.out rfl))
              have hgg := Mm.gTrans HG7.out (Mm.gTrans HG8.out (Mm.gTrans HG9.out HG10.out))
              have HVX : Hid (Mm.PV w10 p bv { st with words := st.words ++ [Pl.L (Pl.B (l.take n))], need := -1, left := 0, used := st.used + (n + 2) } (.slice a6 (st.words.length + 1) k6) rv ev rows) := HV.out.words HO6.out HG6.out HAT6.out hgg H10.out rfl rfl rfl
              have HCX := Pl.hid (Mm.chgW (rv := rv) (rows := rows) HG6.out HAT6.out hgg)
              have c6 := HVX.out.cell 6 rv rfl
              have c2 := HVX.out.cell 2 (.slice a6 (st.words.length + 1) k6) rfl
              have hpl10 := HVX.out.lt
              have HPL10 := Pl.hid hpl10
              have ca6 : (w10.drew.alloc (.cells #[.slice a6 (st.words.length + 1) k6] 22)).cell? ⟨p, 6, none⟩ = some rv := (World.cell?_alloc_old _ _ _ (Nat.ne_of_lt hpl10)).trans c6
              have ca2 : (w10.drew.alloc (.cells #[.slice a6 (st.words.length + 1) k6] 22)).cell? ⟨p, 2, none⟩ = some (.slice a6 (st.words.length + 1) k6) := (World.cell?_alloc_old _ _ _ (Nat.ne_of_lt hpl10)).trans c2
              have hrb : rows.length < 4398046511103 := by have := HRD.out; omega
              have HSTX : Hid (∀ wy, (w10.drew.alloc (.cells #[.slice a6 (st.words.length + 1) k6] 22)).grownBy wy rv.ownBlock → wy.heap[p]? = some (.cells (Mm.cellsP bv (.slice a6 (st.words.length + 1) k6) rv ev { st with words := st.words ++ [Pl.L (Pl.B (l.take n))], need := -1, left := 0, used := st.used + (n + 2) }) 90 (0, 0)) ∧ wy.cell? ⟨p, 6, none⟩ = some rv ∧ wy.frozen? ⟨p, 6, none⟩ = false) := fun wy hg => by
                have h6 := (hg.block p (by simp; have := HPL10.out; omega) (fun e => by have := (HVX.out.2.2.1.lt p e.symm).1; omega)).trans ((Below.heap_alloc _ _ _ HPL10.out).trans HVX.out.1)
                exact ⟨h6, Mm.cellOf h6 rfl, Mm.frozenOf h6⟩
              clear hgg d3
              go_region_law (refine Mm.step_appC _ (by rfl) _ _ (by rfl) w10.drew (.slice a6 (st.words.length + 1) k6) rfl (p + 1) rv rows (by rfl) HVX.out.2.2.1 (by rfl) (by rfl) hrb hpl10 ?_; intro vy wy hoy hgy haty; obtain ⟨ay, ny, ky, rfl⟩ := Mm.ownsRow_slice hoy; obtain ⟨hhy, py, pfy⟩ := HSTX.out wy hgy)
              all_goals
                have HPY := Pl.hid (Mm.heapSet hhy 6 (.slice ay ny ky))
                have HGY7 := Pl.hid (Mm.grownSet wy p 6 (.slice ay ny ky))
                generalize World.setCell wy _ _ = wz at HPY HGY7 ⊢
                have HOY := Pl.hid hoy
                have HGY : Hid ((w10.drew.alloc (.cells #[.slice a6 (st.words.length + 1) k6] 22)).grownBy wy rv.ownBlock) := hgy
                have HATY : Hid ((Value.slice ay ny ky).ownBlock = rv.ownBlock ∨ (Value.slice ay ny ky).ownBlock = some (w10.drew.alloc (.cells #[.slice a6 (st.words.length + 1) k6] 22)).heap.size) := haty
                clear hoy hgy haty hhy py pfy ca6 ca2 c6 c2
                go_wp2_with (first
                  | (refine Mm.wp_storeF _ rfl 22 _ _ (by rfl) (by kernel_rfl) p 2 90 _ _ HPY.out (by rfl) (by rfl) (by simp [Mm.cellsP]) rfl rfl ?_; intro w11 h11 hz11 hg11; have H11 := Pl.hid h11; have HG11 := Pl.hid hg11; clear h11 hz11 hg11)
                  | (refine Mm.wp_storeF _ rfl 3 _ _ (by rfl) (by kernel_rfl) p 1 90 _ _ H11.out (by rfl) (by rfl) (by simp [Mm.cellsP]) rfl rfl ?_; intro w12 h12 hz12 hg12; have H12 := Pl.hid h12; have HG12 := Pl.hid hg12; clear h12 hz12 hg12))
                go_ret
                have hgz := Mm.gTrans HGY7.out (Mm.gTrans HG11.out HG12.out)
                refine ⟨rfl, Mm.foot p (.slice none 0 0) (.slice ay ny ky) (rows ++ [.slice a6 (st.words.length + 1) k6]), ⟨_, _, ev, _, HVX.out.readied HOY.out HGY.out HATY.out hgz H12.out rfl ?_ rfl, rfl⟩, ?_⟩
                · show st.ready ++ _ = st.ready ++ _
                  rw [Pl.L_B]
                · rw [HF.out]
                  exact HCX.out.trans (Mm.chgR HGY.out HATY.out hgz)
          | succ k =>
            rw [if_neg (by omega)]
            clear hk hf0
            go_enter Tryd.func71, Tryd.ntmps71
            go_wp2_with fail
            go_region_law (refine Mm.step_appS _ (by rfl) _ _ (by rfl) w.drew (Pl.B (l.take n)) (p + 1) wv st.words (by rfl) HV.out.2.1 (by rfl) (by rfl) hwbig hpl ?_; intro v6 w6 ho6 hg6 hat6; obtain ⟨a6, k6, rfl, _⟩ := ho6.val; obtain ⟨hh6, p6, pf6⟩ := HST.out w6 hg6)
            all_goals
              have elen : (st.words ++ [Pl.L (Pl.B (l.take n))]).length = st.words.length + 1 := by simp
              rw [elen] at ho6 hat6
              have HP7 := Pl.hid (Mm.heapSet hh6 2 (.slice a6 (st.words.length + 1) k6))
              have HG7 := Pl.hid (Mm.grownSet w6 p 2 (.slice a6 (st.words.length + 1) k6))
              generalize World.setCell w6 _ _ = w7 at HP7 HG7 ⊢
              have HO6 := Pl.hid ho6
              have HG6 : Hid ((w.drew.alloc (.cells #[.string (Pl.B (l.take n))] 9)).grownBy w6 wv.ownBlock) := hg6
              have HAT6 : Hid ((Value.slice a6 (st.words.length + 1) k6).ownBlock = wv.ownBlock ∨ (Value.slice a6 (st.words.length + 1) k6).ownBlock = some (w.drew.alloc (.cells #[.string (Pl.B (l.take n))] 9)).heap.size) := hat6
              clear elen ho6 hg6 hat6 hh6 p6 pf6 hca hcv0 c2 b1 b2 c5 hb' hb2' 
            all_goals
              have d3 : w7.cell? ⟨p, 3, none⟩ = some (.int .i64 ((k : Int) + 2)) := Mm.cellOf (i := 3) HP7.out (by show some (Value.int .i64 (st.left : Int)) = _; rw [HK.out]; rfl)
              have hkk : (k : Int) ≤ 1024 := by have := HK.out; omega
              have hk1 : ((k : Int) + 2 - 1 == 0) = false := beq_eq_false_iff_ne.2 (by omega)
              go_wp2_with (first
                | (refine Mm.wp_storeF _ rfl 3 _ _ (by rfl) (by kernel_rfl) p 5 90 _ _ HP7.out (by rfl) (by rfl) (by simp [Mm.cellsP]) rfl rfl ?_; intro w8 h8 hz8 hg8; have H8 := Pl.hid h8; have HG8 := Pl.hid hg8; clear h8 hz8 hg8; have d3 := Mm.cellOf (i := 3) (v := .int .i64 ((k : Int) + 2)) H8.out (by show some (Value.int .i64 (st.left : Int)) = _; rw [HK.out]; rfl))
                | (refine Mm.wp_storeF _ rfl 3 _ _ (by rfl) (by kernel_rfl) p 3 90 _ _ H8.out (by rfl) (by rfl) (by simp [Mm.cellsP]) rfl rfl ?_; intro w9 h9 hz9 hg9; have H9 := Pl.hid h9; have HG9 := Pl.hid hg9; clear h9 hz9 hg9; have d1 := Mm.cellOf (i := 1) (v := .int .i64 (st.used : Int)) H9.out rfl; clear d3; have d3 := Mm.cellOf (i := 3) (v := .int .i64 ((k : Int) + 2 - 1)) H9.out rfl)
                | (refine Mm.wp_storeF _ rfl 3 _ _ (by rfl) (by kernel_rfl) p 1 90 _ _ H9.out (by rfl) (by rfl) (by simp [Mm.cellsP]) rfl rfl ?_; intro w10 h10 hz10 hg10; have H10 := Pl.hid h10; have HG10 := Pl.hid hg10; clear h10 hz10 hg10; clear d1 d3; have d3 := Mm.cellOf (i := 3) (v := .int .i64 ((k : Int) + 2 - 1)) H10.out rfl))
              go_ret
              have hgg := Mm.gTrans HG7.out (Mm.gTrans HG8.out (Mm.gTrans HG9.out HG10.out))
              refine ⟨rfl, Mm.foot p (.slice a6 (st.words.length + 1) k6) rv rows, ⟨_, rv, ev, rows, HV.out.words HO6.out HG6.out HAT6.out hgg ?_ ?_ rfl rfl, rfl⟩, ?_⟩
              · have e : ((st.left - 1 : Nat) : Int) = (k : Int) + 2 - 1 := by rw [HK.out]; omega
                show w10.heap[p]? = some (Obj.cells #[bv, .int .i64 ((st.used + (n + 2) : Nat) : Int), .slice a6 (st.words.length + 1) k6, .int .i64 ((st.left - 1 : Nat) : Int), .int .i64 (st.size : Int), .int .i64 (-1), rv, ev] 90 (0, 0))
                rw [e]
                exact H10.out
              · rw [Pl.L_B]
              · rw [HF.out]
                exact Mm.chgW HG6.out HAT6.out hgg
      · rw [if_neg (by rintro (⟨_, h⟩ | ⟨h, _⟩); exact h (h13.2 hb); omega), if_pos (by omega)]
        generalize Pl.at_ l n = a0 at b1 hb
        clear h13
        have hb' : (a0 != 13) = false := by simpa [bne] using hb
        clear hb
        go_enter Tryd.func71, Tryd.ntmps71
        go_wp2_with fail
        go_ret
        exact ⟨rfl, F, ⟨wv, rv, ev, rows, HV.out, HF.out⟩, Mm.Chg.refl _ _⟩
  · rw [if_neg (by omega), if_pos (by omega)]
    go_enter Tryd.func71, Tryd.ntmps71
    go_wp2_with fail
    go_ret
    exact ⟨rfl, F, ⟨wv, rv, ev, rows, HV.out, HF.out⟩, Mm.Chg.refl _ _⟩
end Go.Proofs.YtakldjdohgmeiaaDoor

namespace Go.Proofs.YtakldjdohgmeiaaDoor
open Go.RowKit
set_option maxRecDepth 20000

namespace Pl
theorem trim_cut (t : List UInt8) (g o : Nat) : Lib.trimSuffixV (some ⟨g, o, none⟩) t.length t.length (natL t) [13] = .slice (some ⟨g, o, none⟩) (cutM t).length t.length := by
  cases h : crB t with
  | false => rw [trim_no h]; unfold cutM; rw [h]; rfl
  | true =>
    obtain ⟨k, hk⟩ : ∃ k, t.length = k + 1 := ⟨t.length - 1, by have := crB_pos h; omega⟩
    rw [hk, trim_yes h]
    unfold cutM
    rw [h, if_pos rfl, List.length_dropLast, hk]
    rfl
theorem cutM_len (t : List UInt8) : (cutM t).length ≤ t.length := by unfold cutM; split <;> simp
theorem cutM_take (t : List UInt8) : cutM t = t.take (cutM t).length := by
  unfold cutM
  split
  · rw [List.length_dropLast, ← List.dropLast_eq_take]
  · simp
theorem inlineM_none {st : Pst} {l : List UInt8} (h : lineM l 4096 = none) : inlineM st l = (0, { st with err := decide (4096 < l.length) }) := by unfold inlineM; rw [h]
theorem inlineM_ok {st : Pst} {l t : List UInt8} {ws : List (List UInt8)} (h : lineM l 4096 = some t) (hq : inl 4098 (cutM t) [] = (0, ws)) : inlineM st l = (t.length + 1, if ws = [] then st else { st with ready := st.ready ++ [ws] }) := by
  unfold inlineM
  rw [h]
  simp only
  rw [hq]
  rfl
theorem inlineM_bad {st : Pst} {l t : List UInt8} (h : lineM l 4096 = some t) (hq : (inl 4098 (cutM t) []).1 ≠ 0) : inlineM st l = (0, { st with err := true }) := by
  unfold inlineM
  rw [h]
  simp only
  split
  · rename_i e
    rw [e] at hq
    exact absurd rfl hq
  · rfl
end Pl
namespace Mm
open Pl
theorem gDrew {a b : World} {o : Obj} {r : Option Nat} (h : (a.alloc o).grownBy b r) : (a.drew.alloc o).grownBy b r := ⟨h.os, h.tape, h.output, h.size, h.block⟩
theorem OwnS.base {w : World} {b b' : Nat} {v : Value} {l : List (List UInt8)} (h : OwnS w b v l) (hb : b' ≤ b) : OwnS w b' v l := by
  obtain ⟨hl, h0 | ⟨g, cap, cur, hv, hg, r⟩⟩ := h
  · exact ⟨hl, .inl h0⟩
  · exact ⟨hl, .inr ⟨g, cap, cur, hv, Nat.le_trans hb hg, r⟩⟩
/-- 'append(ready, words)' -/
theorem wp_appC {ops : Array Oper} {rest : List Oper} {o : Oper} {a : Act} {Q : Exit → Act → World → Prop} (w : World) (hgd : o.guard = none) (x y : Operand)
    (ho : o.op = .call { callee := .builtin .append, args := #[x, y], argTypes := #[65, 65] })
    (w1 : World) (u : Value) (hu : u.oneCell' = true) (base : Nat) (v : Value) (xs : List Value) (hx : a.eval x = v) (h : w1.ownsRow base 22 1 v xs.length xs) (hy : a.eval y = .slice (some ⟨w1.heap.size, 0, none⟩) 1 1) (hw : w = w1.alloc (.cells #[u] 22))
    (hl : xs.length < 4398046511103) (hbase : base ≤ w1.heap.size)
    (hK : ∀ v' w', w'.ownsRow base 22 1 v' (xs ++ [u]).length (xs ++ [u]) → w.grownBy w' v.ownBlock → (v'.ownBlock = v.ownBlock ∨ v'.ownBlock = some w.heap.size) → wpList Tryd.prog ops Q rest (a.put o.dst v') w') : wpList Tryd.prog ops Q (o :: rest) a w :=
  wpList_plain hgd fun _ hK' => wp0_app1 w x y 65 22 24 (.slice none 0 0) rfl Tryd.info_strs Tryd.underlying65 ho w1 u base v xs hx h hu hy hw (by unfold maxLen; omega) (by omega) hbase fun v' w' h1 h2 h3 => hK' _ _ (hK v' w' h1 h2 h3)
theorem PV.pushed {w0 w w6 w8 : World} {o : Obj} {p : Nat} {bv wv rv ev v6 nv : Value} {st st' : Pst} {rows : List Value} {ws : List (List UInt8)} (h0 : PV w0 p bv st wv rv ev rows) (h : PV w p bv st wv rv ev rows) (hn : OwnS w w0.heap.size nv ws)
    (ho : w6.ownsRow (p + 1) 22 1 v6 (rows ++ [nv]).length (rows ++ [nv])) (hg : (w.drew.alloc o).grownBy w6 rv.ownBlock)
    (hat : v6.ownBlock = rv.ownBlock ∨ v6.ownBlock = some (w.drew.alloc o).heap.size) (h8 : w6.grownBy w8 (some p)) (hp : w8.heap[p]? = some (.cells (cellsP bv wv v6 ev st') 90 (0, 0)))
    (h1 : st'.words = st.words) (h2 : st'.ready = st.ready ++ [ws]) (h3 : st'.err = st.err) : PV w8 p bv st' wv v6 ev (rows ++ [nv]) := by
  have hs : (w.drew.alloc o).heap.size = w.heap.size + 1 := by simp
  have hp0 := h0.lt
  have hnew : ∀ g, nv.ownBlock = some g → w0.heap.size ≤ g ∧ g < w.heap.size := fun g hg => hn.lt g hg
  have hrow : ∀ v ∈ rows ++ [nv], (∃ l, OwnS w (p + 1) v l) ∧ noA v rv ∧ noA v wv := by
    intro v hv
    rcases List.mem_append.1 hv with hv | hv
    · exact ⟨h.2.2.2.1.row hv, (h.2.2.2.2.2.1 v hv).2, (h.2.2.2.2.2.1 v hv).1⟩
    · obtain rfl : v = nv := by simpa using hv
      refine ⟨⟨_, hn.base (by omega)⟩, fun g e1 e2 => ?_, fun g e1 e2 => ?_⟩
      · have := (h0.2.2.1.lt g e2).2
        have := (hnew g e1).1
        omega
      · have := (h0.2.1.lt g e2).2
        have := (hnew g e1).1
        omega
  refine ⟨hp, ?_, ?_, ?_, ?_, ?_, by rw [h3]; exact h.2.2.2.2.2.2⟩
  · rw [h1]
    exact h.2.1.keep fun g hg' => far w o hg h8 (h.2.1.lt g hg').2 (h.2.1.lt g hg').1 (fun e => h.2.2.2.2.1 g hg' e)
  · exact ownsRow_keep ho fun g hg' => h8.block g (ho.lt g hg').2 (fun e => by injection e with e; have := (ho.lt g hg').1; omega)
  · have k : Rdy w (p + 1) (rows ++ [nv]) (st.ready ++ [ws]) := by
      refine ⟨by simp [h.2.2.2.1.1], fun i l hl => ?_⟩
      rcases Nat.lt_or_ge i st.ready.length with hi | hi
      · rw [List.getElem?_append_left hi] at hl
        obtain ⟨v, e1, e2⟩ := h.2.2.2.1.2 i l hl
        exact ⟨v, by rw [List.getElem?_append_left (by rw [h.2.2.2.1.1]; exact hi)]; exact e1, e2⟩
      · rw [List.getElem?_append_right hi] at hl
        have h0' : i - st.ready.length = 0 := by
          have := (List.getElem?_eq_some_iff.1 hl).1
          simp at this
          omega
        rw [h0'] at hl
        obtain rfl : ws = l := by simpa using hl
        refine ⟨nv, ?_, hn.base (by omega)⟩
        rw [List.getElem?_append_right (by rw [h.2.2.2.1.1]; exact hi), h.2.2.2.1.1, h0']
        rfl
    rw [h2]
    exact k.keep fun v hv g hg' => by
      obtain ⟨⟨l, hl⟩, hn', _⟩ := hrow v hv
      exact far w o hg h8 (hl.lt g hg').2 (hl.lt g hg').1 (fun e => hn' g hg' e)
  · intro g hg1 hg2
    rcases hat with e | e
    · rw [e] at hg2
      exact h.2.2.2.2.1 g hg1 hg2
    · rw [e] at hg2
      injection hg2 with hg2
      have := (h.2.1.lt g hg1).2
      omega
  · intro v hv
    obtain ⟨⟨l, hl⟩, hn', hn''⟩ := hrow v hv
    refine ⟨hn'', fun g hg1 hg2 => ?_⟩
    rcases hat with e | e
    · rw [e] at hg2
      exact hn' g hg1 hg2
    · rw [e] at hg2
      injection hg2 with hg2
      have := (hl.lt g hg1).2
      omega
theorem chgP {w0 w w6 w8 : World} {o : Obj} {p : Nat} {wv rv v6 nv : Value} {rows : List Value} (hb : Below w0.heap.size w0 w) (hn : ∀ g, nv.ownBlock = some g → w0.heap.size ≤ g) (hg : (w.drew.alloc o).grownBy w6 rv.ownBlock) (hat : v6.ownBlock = rv.ownBlock ∨ v6.ownBlock = some (w.drew.alloc o).heap.size) (h8 : w6.grownBy w8 (some p)) : Chg w0 (foot p wv rv rows) w8 (foot p wv v6 (rows ++ [nv])) := by
  have hs : (w.drew.alloc o).heap.size = w.heap.size + 1 := by simp
  have h6 := hg.size
  have h7 := h8.size
  have h5 := hb.size
  refine ⟨h8.os.trans (hg.os.trans hb.os), h8.tape.trans (hg.tape.trans hb.tape), h8.output.trans (hg.output.trans hb.output), by omega, fun g hg0 hf => ?_, fun g hg' => ?_⟩
  · rw [h8.block g (by omega) (fun e => by injection e with e; exact hf (.inl e)), hg.block g (by omega) (fun e => hf (.inr (.inr (.inl e.symm))))]
    exact (Below.heap_alloc w.drew o g (by show g < w.heap.size; omega)).trans (hb.block g hg0)
  · rcases hg' with e | e | e | ⟨v, hv, e⟩
    · exact .inl (.inl e)
    · exact .inl (.inr (.inl e))
    · rcases hat with h | h
      · exact .inl (.inr (.inr (.inl (by rw [← h]; exact e))))
      · rw [h] at e
        injection e with e
        exact .inr (by omega)
    · rcases List.mem_append.1 hv with hv | hv
      · exact .inl (.inr (.inr (.inr ⟨v, hv, e⟩)))
      · obtain rfl : v = nv := by simpa using hv
        exact .inr (hn g e)
/-- a line that is no row of words: some error is told -/
def InlE (W : World) : Prop := ∀ (s : ByteArray) (w : World), s.size ≤ 4096 → Below W.heap.size W w → (inl 4098 (L s) []).1 ≠ 0 →
  Calls Tryd.prog 38 #[.string s] w fun e w' => (∃ T x, e = .returned (.tuple #[.slice none 0 0, .iface T x])) ∧ Below w.heap.size w w'
end Mm

set_option maxHeartbeats 8000000 in
theorem pinline_walk (p g o c : Nat) (l : List UInt8) (bv : Value) (st : Pl.Pst) (F : Nat → Prop) (W w : World) (hpW : W.heap.size ≤ p) (hR : Mm.RErr W) (hI : Mm.InlE W) (hW : Below W.heap.size W w) (hl : l.length ≤ 140737488351232) (hc : l.length ≤ c) (h0 : 0 < l.length) (h : Mm.BytesAt w g o l)
    (hp : Mm.PQ w p bv st F) (he : st.err = false) (hrd : st.ready.length ≤ 1099511627776) :
    Calls Tryd.prog 74 #[.pointer (some ⟨p, 0, none⟩), .slice (some ⟨g, o, none⟩) l.length c] w fun e w' => e = .returned (.int .i64 ((Pl.inlineM st l).1 : Int)) ∧ ∃ F', Mm.PQ w' p bv (Pl.inlineM st l).2 F' ∧ Mm.Chg w F w' F' := by
  have HP := Pl.hid hp
  have HM := Pl.hid h
  have HR := Pl.hid hR
  have HI := Pl.hid hI
  have HW := Pl.hid hW
  have He := Pl.hid he
  have HPW := Pl.hid hpW
  clear hp h hR hI hW he hpW
  cases hline : Pl.lineM l 4096 with
  | none =>
    rw [Pl.inlineM_none hline]
    have HL := Pl.hid hline
    obtain ⟨wv0, rv0, ev0, rows0, hv0, hF⟩ := HP.out
    have HF := Pl.hid hF
    clear hline hv0 hF
    simp only
    go_enter Tryd.func74, Tryd.ntmps74
    go_wp2_with fail
    refine (line_none p g o c 4096 4096 rfl l bv st F W w HR.out HW.out hl hc (by decide) HM.out HL.out HP.out He.out).mono ?_
    rintro e w1 ⟨rfl, hp1, hg1⟩
    have HP1 := Pl.hid hp1
    have HG1 := Pl.hid hg1
    clear hp1 hg1
    go_wp2_with fail
    go_ret
    exact ⟨rfl, F, HP1.out, Mm.Chg.grown HG1.out (fun g e => by rw [HF.out]; injection e with e; exact .inl e.symm) (fun _ h => .inl h)⟩
  | some t =>
    have HL := Pl.hid hline
    obtain ⟨_, _, ht, htl, ht46⟩ := Pl.lineM_some hline
    have HMt : Hid (Mm.BytesAt w g o t) := by
      have := HM.out.take t.length
      rwa [← ht] at this
    have htc : t.length ≤ c := by omega
    have HLN := Pl.hid hline
    clear hline ht
    obtain ⟨wv, rv, ev, rows, hv, hF⟩ := HP.out
    have HV := Pl.hid hv
    have HF := Pl.hid hF
    have HRD : Hid (rows.length ≤ 1099511627776) := by show _ ≤ _; rw [hv.2.2.2.1.1]; exact hrd
    clear hv hF hrd HP
    have HB1 := Pl.hid ((Below.refl w.heap.size w).alloc (Nat.le_refl _) (.cells #[.int .u8 13] 5))
    have HX1 : Hid (Lib.BytesIn (w.alloc (.cells #[.int .u8 13] 5)) (some ⟨g, o, none⟩) t.length (Pl.natL t)) := Mm.BytesAt.byteIn (g := g) (o := o) fun hpos => ⟨rfl, HMt.out.keep (HB1.out.block g (HMt.out.lt hpos))⟩
    have HX2 : Hid (Lib.BytesIn (w.alloc (.cells #[.int .u8 13] 5)) (some ⟨w.heap.size, 0, none⟩) 1 [13]) := fun _ => ⟨w.heap.size, 0, rfl, fun i hi => by
      rw [World.cell?_alloc_mark]
      match i, hi with
      | 0, _ => rfl⟩
    have HT := Pl.hid (Pl.trim_cut t g o)
    have hcl := Pl.cutM_len t
    have HCV : Hid ((convert 24 9 (.slice (some ⟨g, o, none⟩) (Pl.cutM t).length t.length)).run Tryd.prog (w.alloc (.cells #[.int .u8 13] 5)) = .ok (.string (Pl.B (Pl.cutM t))) (w.alloc (.cells #[.int .u8 13] 5))) := by
      refine Mm.conv_at _ g o _ _ (Pl.cutM t) rfl ?_
      have := HMt.out.take (Pl.cutM t).length
      rw [← Pl.cutM_take] at this
      rcases Nat.eq_zero_or_pos (Pl.cutM t).length with hz | hz
      · intro j hj
        omega
      · exact this.keep (HB1.out.block g (this.lt hz))
    have hsz : (Pl.B (Pl.cutM t)).size ≤ 4096 := by rw [Pl.B_size]; omega
    have HWB : Hid (Below W.heap.size W (w.alloc (.cells #[.int .u8 13] 5))) := HW.out.trans (HB1.out.mono HW.out.size)
    cases hq : Pl.inl 4098 (Pl.cutM t) [] with
    | mk k ws =>
    cases k with
    | zero =>
      rw [Pl.inlineM_ok HLN.out hq]
      have HQ : Hid (Pl.inl 4098 (Pl.L (Pl.B (Pl.cutM t))) [] = (0, ws)) := by show _ = _; rw [Pl.L_B]; exact hq
      clear hq
      cases ws with
      | nil =>
        rw [if_pos rfl]
        go_enter Tryd.func74, Tryd.ntmps74
        go_wp2_with fail
        refine (line_some _ g o c 4096 4096 rfl l t w hl hc h0 (by decide) HM.out HL.out).mono ?_
        rintro e w1 ⟨rfl, rfl⟩
        go_wp2_with fail
        refine (Tryd.bytes_TrimSuffix_all _ _ t.length t.length 1 1 (Pl.natL t) [13] _ (Pl.natL_length t) rfl (Nat.le_refl _) (by omega) HX1.out HX2.out).mono ?_
        rw [HT.out]
        rintro e w1 ⟨rfl, rfl⟩
        have hcv := HCV.out
        go_wp2_with fail
        clear hcv
        refine (inline_ok _ 4098 [] _ hsz HQ.out).mono ?_
        rintro e w2 ⟨nv, rfl, hown, hb2⟩
        obtain ⟨na, nc, rfl, _⟩ := hown.val
        have HB2 := Pl.hid (HB1.out.trans (hb2.mono HB1.out.size))
        have HV2 := Pl.hid (HV.out.below HB2.out)
        clear hown hb2
        go_wp2_with fail
        go_ret
        exact ⟨rfl, F, ⟨wv, rv, ev, rows, HV2.out, HF.out⟩, Mm.Chg.below HB2.out⟩
      | cons w0 ws =>
        rw [if_neg (by simp)]
        go_enter Tryd.func74, Tryd.ntmps74
        go_wp2_with fail
        refine (line_some _ g o c 4096 4096 rfl l t w hl hc h0 (by decide) HM.out HL.out).mono ?_
        rintro e w1 ⟨rfl, rfl⟩
        go_wp2_with fail
        refine (Tryd.bytes_TrimSuffix_all _ _ t.length t.length 1 1 (Pl.natL t) [13] _ (Pl.natL_length t) rfl (Nat.le_refl _) (by omega) HX1.out HX2.out).mono ?_
        rw [HT.out]
        rintro e w1 ⟨rfl, rfl⟩
        have hcv := HCV.out
        go_wp2_with fail
        clear hcv
        refine (inline_ok _ 4098 (w0 :: ws) _ hsz HQ.out).mono ?_
        rintro e w2 ⟨nv, rfl, hown, hb2⟩
        obtain ⟨na, nc, rfl, _⟩ := hown.val
        have HB2 := Pl.hid (HB1.out.trans (hb2.mono HB1.out.size))
        have HV2 := Pl.hid (HV.out.below HB2.out)
        have HO2 : Hid (Mm.OwnS w2 w.heap.size (.slice na (w0 :: ws).length nc) (w0 :: ws)) := hown.base (by simp)
        have c6 := HV2.out.cell 6 rv rfl
        have hpl2 := HV2.out.lt
        have hrb : rows.length < 4398046511103 := by have := HRD.out; omega
        have hnz : (w0 :: ws).length = ws.length + 1 := rfl
        rw [hnz] at HO2 ⊢
        have HPL2 := Pl.hid hpl2
        clear hown hb2 hnz
        go_wp2_with (first
          | (at_builtin; refine Mm.wp_appC _ rfl _ _ (by rfl) w2 (.slice na (ws.length + 1) nc) rfl (p + 1) rv rows (by rfl) HV2.out.2.2.1 (by rfl) (by rfl) hrb hpl2 ?_; intro vy wy hoy hgy haty; obtain ⟨ay, ny, ky, rfl⟩ := Mm.ownsRow_slice hoy; have HOY := Pl.hid hoy; have HGY := Pl.hid (Mm.gDrew hgy); have HATY := Pl.hid haty; clear hoy hgy haty; have HPY := Pl.hid (((HGY.out.block p (by have := HPL2.out; simp; omega) (fun e => by have := (HV2.out.2.2.1.lt p e.symm).1; omega)).trans (Below.heap_alloc _ _ _ HPL2.out)).trans HV2.out.1))
          | (refine Mm.wp_storeF _ rfl 65 _ _ (by rfl) (by kernel_rfl) p 6 90 (Mm.cellsP bv wv rv ev st) _ HPY.out (by rfl) (by rfl) (by simp [Mm.cellsP]) rfl rfl ?_; intro w8 h8 hz8 hg8; have H8 := Pl.hid h8; have HG8 := Pl.hid hg8; clear h8 hz8 hg8))
        go_ret
        refine ⟨rfl, Mm.foot p wv (.slice ay ny ky) (rows ++ [.slice na (ws.length + 1) nc]), ⟨wv, _, ev, _, HV.out.pushed HV2.out HO2.out HOY.out HGY.out HATY.out HG8.out H8.out rfl rfl rfl, rfl⟩, ?_⟩
        rw [HF.out]
        exact Mm.chgP HB2.out (fun g hg => (HO2.out.lt g hg).1) HGY.out HATY.out HG8.out
    | succ k =>
      have hne : (Pl.inl 4098 (Pl.L (Pl.B (Pl.cutM t))) []).1 ≠ 0 := by rw [Pl.L_B, hq]; simp
      have HQ := Pl.hid hne
      rw [Pl.inlineM_bad HLN.out (by rw [hq]; simp)]
      clear hq hne
      go_enter Tryd.func74, Tryd.ntmps74
      go_wp2_with fail
      refine (line_some _ g o c 4096 4096 rfl l t w hl hc h0 (by decide) HM.out HL.out).mono ?_
      rintro e w1 ⟨rfl, rfl⟩
      go_wp2_with fail
      refine (Tryd.bytes_TrimSuffix_all _ _ t.length t.length 1 1 (Pl.natL t) [13] _ (Pl.natL_length t) rfl (Nat.le_refl _) (by omega) HX1.out HX2.out).mono ?_
      rw [HT.out]
      rintro e w1 ⟨rfl, rfl⟩
      have hcv := HCV.out
      go_wp2_with fail
      clear hcv
      refine (HI.out _ _ hsz HWB.out HQ.out).mono ?_
      rintro e w2 ⟨⟨T, xv, rfl⟩, hb2⟩
      have HB2 := Pl.hid (HB1.out.trans (hb2.mono HB1.out.size))
      have HV2 := Pl.hid (HV.out.below HB2.out)
      have hpl2 := HV2.out.lt
      clear hb2
      go_wp2_with (first
        | (refine Mm.wp_storeF _ rfl 53 _ _ (by rfl) (by kernel_rfl) p 7 90 (Mm.cellsP bv wv rv ev st) _ HV2.out.1 (by rfl) (by rfl) (by simp [Mm.cellsP]) rfl rfl ?_; intro w8 h8 hz8 hg8; have H8 := Pl.hid h8; have HG8 := Pl.hid hg8; clear h8 hz8 hg8))
      go_ret
      exact ⟨rfl, F, ⟨wv, rv, .iface T xv, rows, HV2.out.store HG8.out H8.out rfl rfl (.inl ⟨rfl, _, _, rfl⟩), HF.out⟩, (Mm.Chg.below HB2.out).trans (Mm.Chg.grown HG8.out (fun g e => by rw [HF.out]; injection e with e; exact .inl e.symm) (fun _ h => .inl h))⟩
end Go.Proofs.YtakldjdohgmeiaaDoor

namespace Go.Proofs.YtakldjdohgmeiaaDoor
open Go.RowKit
set_option maxRecDepth 20000

namespace Pl
/-- a state that a parser may be in -/
def okP (st : Pst) : Prop := -1 ≤ st.need ∧ st.need ≤ 1048576 ∧ st.left ≤ 1024 ∧ (0 ≤ st.need → 0 < st.left) ∧ (st.err = false → st.size ≤ 4194304)
def bnd (st : Pst) (U : Nat) : Prop := st.used ≤ U ∧ st.words.length ≤ U ∧ st.ready.length ≤ U
theorem okP_fresh : okP fresh := by unfold okP fresh; simp
theorem count_ok {st : Pst} {l : List UInt8} (h : okP st) (_ : st.need < 0) (he : st.err = false) : okP (countM st l).2 ∧ (countM st l).1 ≤ l.length ∧ ∀ U, bnd st U → bnd (countM st l).2 (U + (countM st l).1) := by
  obtain ⟨h1, h2, h3, h4, h5⟩ := h
  unfold countM
  cases hq : numM l (-1) 1024 with
  | mk q e =>
  cases q with
  | none => exact ⟨⟨h1, h2, h3, h4, fun _ => h5 he⟩, Nat.zero_le _, fun U hU => hU⟩
  | some nk =>
    obtain ⟨n, k⟩ := nk
    obtain ⟨g1, g2, g3, g4, g5⟩ := numM_in hq
    simp only
    split
    · refine ⟨⟨h1, h2, ?_, fun _ => ?_, fun _ => ?_⟩, g5, fun U hU => ⟨?_, ?_, ?_⟩⟩
      · show n.toNat ≤ 1024; omega
      · show 0 < n.toNat; omega
      · show 0 ≤ 4194304; omega
      · show k ≤ U + k; omega
      · exact Nat.zero_le _
      · have := hU.2.2; show st.ready.length ≤ U + k; omega
    · exact ⟨⟨h1, h2, h3, h4, h5⟩, g5, fun U hU => ⟨by have := hU.1; omega, by have := hU.2.1; omega, by have := hU.2.2; omega⟩⟩
theorem length_ok {st : Pst} {l : List UInt8} (h : okP st) (hl : 0 < st.left) (he : st.err = false) : okP (lengthM st l).2 ∧ (lengthM st l).1 ≤ l.length ∧ ∀ U, bnd st U → bnd (lengthM st l).2 (U + (lengthM st l).1) := by
  obtain ⟨h1, h2, h3, h4, h5⟩ := h
  unfold lengthM
  split
  · exact ⟨⟨h1, h2, h3, h4, fun e => by cases e⟩, Nat.zero_le _, fun U hU => hU⟩
  · cases hq : numM l 0 1048576 with
    | mk q e =>
    cases q with
    | none => exact ⟨⟨h1, h2, h3, h4, fun _ => h5 he⟩, Nat.zero_le _, fun U hU => hU⟩
    | some nk =>
      obtain ⟨n, k⟩ := nk
      obtain ⟨g1, g2, g3, g4, g5⟩ := numM_in hq
      simp only
      split
      · exact ⟨⟨h1, h2, h3, h4, fun e => by cases e⟩, Nat.zero_le _, fun U hU => hU⟩
      · refine ⟨⟨?_, g2, h3, fun _ => hl, fun _ => ?_⟩, g5, fun U hU => ⟨?_, ?_, ?_⟩⟩
        · show -1 ≤ n; omega
        · show st.size + n.toNat ≤ 4194304; omega
        · have := hU.1; show st.used + k ≤ U + k; omega
        · have := hU.2.1; show st.words.length ≤ U + k; omega
        · have := hU.2.2; show st.ready.length ≤ U + k; omega
theorem word_ok {st : Pst} {l : List UInt8} (h : okP st) (_ : st.err = false) : okP (wordM st l).2 ∧ (wordM st l).1 ≤ l.length ∧ ∀ U, bnd st U → bnd (wordM st l).2 (U + (wordM st l).1) := by
  obtain ⟨h1, h2, h3, h4, h5⟩ := h
  unfold wordM
  split
  · exact ⟨⟨h1, h2, h3, h4, fun e => by cases e⟩, Nat.zero_le _, fun U hU => hU⟩
  · split
    · exact ⟨⟨h1, h2, h3, h4, h5⟩, Nat.zero_le _, fun U hU => hU⟩
    · rename_i hlen
      simp only
      split
      · refine ⟨⟨by show (-1 : Int) ≤ -1; omega, by show (-1 : Int) ≤ 1048576; omega, Nat.zero_le _, fun e => absurd e (by show ¬ (0 : Int) ≤ -1; omega), h5⟩, by omega, fun U hU => ⟨Nat.zero_le _, Nat.zero_le _, ?_⟩⟩
        have := hU.2.2
        simp
        omega
      · refine ⟨⟨by show (-1 : Int) ≤ -1; omega, by show (-1 : Int) ≤ 1048576; omega, by show st.left - 1 ≤ 1024; omega, fun e => absurd e (by show ¬ (0 : Int) ≤ -1; omega), h5⟩, by omega, fun U hU => ⟨?_, ?_, ?_⟩⟩
        · have := hU.1; show st.used + (st.need.toNat + 2) ≤ U + (st.need.toNat + 2); omega
        · have := hU.2.1; simp; omega
        · have := hU.2.2; show st.ready.length ≤ U + (st.need.toNat + 2); omega
theorem inline_okP {st : Pst} {l : List UInt8} (h : okP st) (he : st.err = false) : okP (inlineM st l).2 ∧ (inlineM st l).1 ≤ l.length ∧ ∀ U, bnd st U → bnd (inlineM st l).2 (U + (inlineM st l).1) := by
  obtain ⟨h1, h2, h3, h4, h5⟩ := h
  cases hq : lineM l 4096 with
  | none => rw [inlineM_none hq]; exact ⟨⟨h1, h2, h3, h4, fun _ => h5 he⟩, Nat.zero_le _, fun U hU => hU⟩
  | some t =>
    obtain ⟨_, _, _, ht, _⟩ := lineM_some hq
    cases hi : inl 4098 (cutM t) [] with
    | mk k ws =>
    cases k with
    | zero =>
      rw [inlineM_ok hq hi]
      simp only
      split
      · exact ⟨⟨h1, h2, h3, h4, h5⟩, ht, fun U hU => ⟨by have := hU.1; omega, by have := hU.2.1; omega, by have := hU.2.2; omega⟩⟩
      · refine ⟨⟨h1, h2, h3, h4, h5⟩, ht, fun U hU => ⟨?_, ?_, ?_⟩⟩
        · have := hU.1; show st.used ≤ U + (t.length + 1); omega
        · have := hU.2.1; show st.words.length ≤ U + (t.length + 1); omega
        · have := hU.2.2; simp; omega
    | succ k =>
      rw [inlineM_bad hq (by rw [hi]; simp)]
      exact ⟨⟨h1, h2, h3, h4, fun e => by cases e⟩, Nat.zero_le _, fun U hU => hU⟩
theorem part_ok {st : Pst} {l : List UInt8} (h : okP st) (he : st.err = false) : okP (partM st l).2 ∧ (partM st l).1 ≤ l.length ∧ ∀ U, bnd st U → bnd (partM st l).2 (U + (partM st l).1) := by
  unfold partM
  split
  · exact ⟨h, Nat.zero_le _, fun U hU => hU⟩
  · split
    · exact word_ok h he
    · split
      · rename_i hl; exact length_ok h hl he
      · split
        · exact count_ok h (by omega) he
        · exact inline_okP h he
end Pl

set_option maxHeartbeats 4000000 in
theorem part_walk (p : Nat) (v : Value) (l : List UInt8) (bv : Value) (st : Pl.Pst) (F : Nat → Prop) (W w : World) (hpW : W.heap.size ≤ p) (hR : Mm.RErr W) (hE : Mm.Errs W) (hI : Mm.InlE W) (hW : Below W.heap.size W w) (hl : l.length ≤ 140737488351232) (hv : Mm.Rest w v l)
    (hp : Mm.PQ w p bv st F) (he : st.err = false) (hok : Pl.okP st) (U : Nat) (hb : Pl.bnd st U) (hU : U ≤ 1099511627776) :
    Calls Tryd.prog 59 #[.pointer (some ⟨p, 0, none⟩), v] w fun e w' => e = .returned (.int .i64 ((Pl.partM st l).1 : Int)) ∧ ∃ F', Mm.PQ w' p bv (Pl.partM st l).2 F' ∧ Mm.Chg w F w' F' := by
  obtain ⟨a, c, rfl, hc, hbytes⟩ := hv
  obtain ⟨h1, h2, h3, h4, h5⟩ := hok
  obtain ⟨b1, b2, b3⟩ := hb
  unfold Pl.partM
  rcases Nat.eq_zero_or_pos l.length with h0 | h0
  · obtain rfl : l = [] := List.eq_nil_of_length_eq_zero h0
    rw [if_pos rfl]
    have HP := Pl.hid hp
    clear hR hE hI hW hp h4 h5 hbytes hpW
    go_enter Tryd.func59, Tryd.ntmps59
    go_wp2_with fail
    go_ret
    exact ⟨rfl, F, HP.out, Mm.Chg.refl _ _⟩
  · rw [if_neg (fun e => by rw [e] at h0; exact absurd h0 (by simp))]
    obtain ⟨g, o, rfl, hm⟩ := hbytes h0
    have hpv := hp
    obtain ⟨wv, rv, ev, rows, hv, hF⟩ := hpv
    have c5 := hv.cell 5 (.int .i64 st.need) rfl
    have c3 := hv.cell 3 (.int .i64 (st.left : Int)) rfl
    have c0 := hm 0 h0
    rw [Nat.add_zero] at c0
    have hlz : ¬ ((l.length : Int) = 0) := by omega
    clear hv hF
    rcases Int.lt_or_le st.need 0 with hn | hn
    · rw [if_neg (by omega)]
      rcases Nat.eq_zero_or_pos st.left with hf | hf
      · rw [if_neg (by omega)]
        have hl0 : (st.left : Int) = 0 := by omega
        rw [hl0] at c3
        rcases Decidable.em (l.head? = some 42) with h42 | h42
        · rw [if_pos h42]
          have HC := Pl.hid (count_walk p g o c l bv st F W w hR hE hW hl hc h0 hm hp he)
          have hq : (Pl.at_ l 0 == 42) = true := by
            cases l with
            | nil => exact absurd h0 (by simp)
            | cons d l =>
              injection h42 with h42
              subst h42
              rfl
          generalize Pl.at_ l 0 = a0 at c0 hq
          clear hR hE hI hW hp hm h42 h4 h5 he hl0 hf hpW
          go_enter Tryd.func59, Tryd.ntmps59
          go_wp2_with fail
          refine HC.out.mono ?_
          rintro e w1 ⟨rfl, F', hp1, hg1⟩
          have HP1 := Pl.hid hp1
          have HG1 := Pl.hid hg1
          clear hp1 hg1 c5 c3 c0 hq
          go_wp2_with fail
          go_ret
          exact ⟨rfl, F', HP1.out, HG1.out⟩
        · rw [if_neg h42]
          have HC := Pl.hid (pinline_walk p g o c l bv st F W w hpW hR hI hW hl hc h0 hm hp he (by omega))
          have hq : (Pl.at_ l 0 == 42) = false := by
            refine beq_eq_false_iff_ne.2 fun e => h42 ?_
            cases l with
            | nil => exact absurd h0 (by simp)
            | cons d l => exact congrArg some (UInt8.toNat_inj.1 (by have : ((d.toNat : Nat) : Int) = 42 := e; show d.toNat = 42; omega))
          generalize Pl.at_ l 0 = a0 at c0 hq
          clear hR hE hI hW hp hm h42 h4 h5 he hl0 hf hpW
          go_enter Tryd.func59, Tryd.ntmps59
          go_wp2_with fail
          refine HC.out.mono ?_
          rintro e w1 ⟨rfl, F', hp1, hg1⟩
          have HP1 := Pl.hid hp1
          have HG1 := Pl.hid hg1
          clear hp1 hg1 c5 c3 c0 hq
          go_wp2_with fail
          go_ret
          exact ⟨rfl, F', HP1.out, HG1.out⟩
      · rw [if_pos hf]
        have HC := Pl.hid (length_walk p g o c l bv st F W w hpW hR hE hW hl hc h0 hm hp he (h5 he) (by omega))
        clear hR hE hI hW hp hm h4 h5 he c0 hpW
        go_enter Tryd.func59, Tryd.ntmps59
        go_wp2_with fail
        refine HC.out.mono ?_
        rintro e w1 ⟨rfl, F', hp1, hg1⟩
        have HP1 := Pl.hid hp1
        have HG1 := Pl.hid hg1
        clear hp1 hg1 c5 c3
        go_wp2_with fail
        go_ret
        exact ⟨rfl, F', HP1.out, HG1.out⟩
    · rw [if_pos hn]
      have HC := Pl.hid (word_walk p g o c l bv st F W w hpW hR hW hl hc hm hp he hn h2 (h4 hn) h3 (by omega) (by omega) (by omega))
      clear hR hE hI hW hp hm h4 h5 he c0 hpW c3
      go_enter Tryd.func59, Tryd.ntmps59
      go_wp2_with fail
      refine HC.out.mono ?_
      rintro e w1 ⟨rfl, F', hp1, hg1⟩
      have HP1 := Pl.hid hp1
      have HG1 := Pl.hid hg1
      clear hp1 hg1 c5
      go_wp2_with fail
      go_ret
      exact ⟨rfl, F', HP1.out, HG1.out⟩
end Go.Proofs.YtakldjdohgmeiaaDoor
