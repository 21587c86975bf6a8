/- The parser of requests as a plain function on bytes, and what of it stands in memory. Conditions stand in each law. -/
import Derived.Test.YtakldjdohgmeiaaDoorReqF
import Derived.Test.YtakldjdohgmeiaaDoorDigGs
import Derived.Lib.IndexLaws
namespace Go.Proofs.YtakldjdohgmeiaaDoor
open Go.RowKit
set_option maxRecDepth 20000

namespace Pl
structure Pst where
  used : Nat
  words : List (List UInt8)
  left : Nat
  size : Nat
  need : Int
  ready : List (List (List UInt8))
  err : Bool
deriving DecidableEq
def fresh : Pst := ⟨0, [], 0, 0, -1, [], false⟩
def ixM (l : List UInt8) (m : Nat) : Int := Lib.indexByte (l.take (m + 1)) 10
def lineM (l : List UInt8) (m : Nat) : Option (List UInt8) := if ixM l m = -1 then none else some (l.take (ixM l m).toNat)
/-- does a line end by a CR? -/
def crB (t : List UInt8) : Bool := decide (t.getLast? = some 13)
def cutM (t : List UInt8) : List UInt8 := if crB t = true then t.dropLast else t
def numOk (t : List UInt8) (lo hi : Int) : Bool := crB t && decide (2 ≤ t.length) && decide (rIc t.dropLast.tail = 0) && decide (lo ≤ rIv t.dropLast.tail) && decide (rIv t.dropLast.tail ≤ hi)
/-- the number of a header line and its length; or whether that is an error -/
def numM (l : List UInt8) (lo hi : Int) : Option (Int × Nat) × Bool :=
  match lineM l 32 with
  | none => (none, decide (32 < l.length))
  | some t => if numOk t lo hi = true then (some (rIv t.dropLast.tail, t.length + 1), false) else (none, true)
def countM (st : Pst) (l : List UInt8) : Nat × Pst :=
  match numM l (-1) 1024 with
  | (none, e) => (0, { st with err := e })
  | (some (n, k), _) => (k, if 0 < n then { st with left := n.toNat, size := 0, words := [], used := k } else st)
def lengthM (st : Pst) (l : List UInt8) : Nat × Pst :=
  if l.head? ≠ some 36 then (0, { st with err := true }) else
  match numM l 0 1048576 with
  | (none, e) => (0, { st with err := e })
  | (some (n, k), _) => if 4194304 < st.size + n.toNat then (0, { st with size := st.size + n.toNat, err := true }) else (k, { st with size := st.size + n.toNat, need := n, used := st.used + k })
def wordM (st : Pst) (l : List UInt8) : Nat × Pst :=
  if st.need.toNat < l.length ∧ l[st.need.toNat]? ≠ some 13 ∨ st.need.toNat + 1 < l.length ∧ l[st.need.toNat + 1]? ≠ some 10 then (0, { st with err := true })
  else if l.length < st.need.toNat + 2 then (0, st)
  else (st.need.toNat + 2,
    if st.left = 1 then { st with used := 0, words := [], left := 0, need := -1, ready := st.ready ++ [st.words ++ [l.take st.need.toNat]] }
    else { st with words := st.words ++ [l.take st.need.toNat], need := -1, left := st.left - 1, used := st.used + (st.need.toNat + 2) })
def inlineM (st : Pst) (l : List UInt8) : Nat × Pst :=
  match lineM l 4096 with
  | none => (0, { st with err := decide (4096 < l.length) })
  | some t => match inl 4098 (cutM t) [] with
    | (0, ws) => (t.length + 1, if ws = [] then st else { st with ready := st.ready ++ [ws] })
    | _ => (0, { st with err := true })
def partM (st : Pst) (l : List UInt8) : Nat × Pst :=
  if l = [] then (0, st) else if 0 ≤ st.need then wordM st l else if 0 < st.left then lengthM st l else if l.head? = some 42 then countM st l else inlineM st l
/-- the parts that bytes have, one behind the other -/
def feedM : Nat → Pst → List UInt8 → Pst × List UInt8
  | 0, st, l => (st, l)
  | f + 1, st, l => if st.err = true then (st, l) else if (partM st l).1 = 0 then ((partM st l).2, l) else feedM f (partM st l).2 (l.drop (partM st l).1)
/-- a state that may be -/
def okS (st : Pst) : Prop := st.size ≤ 5242880 ∧ -1 ≤ st.need ∧ st.need ≤ 1048576 ∧ st.left ≤ 1024 ∧ (0 ≤ st.need → 0 < st.left)
theorem ixM_lt {l : List UInt8} {m : Nat} (h : ixM l m ≠ -1) : 0 ≤ ixM l m ∧ (ixM l m).toNat < l.length ∧ (ixM l m).toNat ≤ m ∧ l[(ixM l m).toNat]? = some 10 := by
  have hge := Lib.indexByte_ge (l.take (m + 1)) 10
  have h0 : 0 ≤ ixM l m := by unfold ixM at *; omega
  have h1 := (Lib.indexByte_some (l := l.take (m + 1)) (c := 10) (o := (ixM l m).toNat) (by unfold ixM at *; omega)).1
  have h2 := (List.getElem?_eq_some_iff.1 h1).1
  rw [List.length_take] at h2
  refine ⟨h0, by omega, by omega, ?_⟩
  rw [List.getElem?_take] at h1
  split at h1
  · exact h1
  · cases h1
theorem lineM_some {l t : List UInt8} {m : Nat} (h : lineM l m = some t) : ixM l m ≠ -1 ∧ ixM l m = t.length ∧ t = l.take t.length ∧ t.length < l.length ∧ t.length ≤ m := by
  unfold lineM at h
  split at h
  · cases h
  · rename_i h0
    injection h with h
    obtain ⟨h1, h2, h3, _⟩ := ixM_lt h0
    have hl : t.length = (ixM l m).toNat := by rw [← h, List.length_take]; omega
    exact ⟨h0, by omega, by rw [hl, h], by omega, by omega⟩
theorem lineM_none {l : List UInt8} {m : Nat} (h : lineM l m = none) : ixM l m = -1 := by
  unfold lineM at h
  split at h
  · assumption
  · cases h
end Pl

namespace Mm
open Pl
def noA (a b : Value) : Prop := ∀ g, a.ownBlock = some g → b.ownBlock = some g → False
def ErrV (e : Bool) (v : Value) : Prop := (e = true ∧ ∃ T x, v = .iface T x) ∨ (e = false ∧ v = .nilIface)
/-- rows of texts, one behind the other -/
def Rdy (w : World) (b : Nat) (rows : List Value) (ready : List (List (List UInt8))) : Prop := rows.length = ready.length ∧ ∀ (i : Nat) (l : List (List UInt8)), ready[i]? = some l → ∃ v, rows[i]? = some v ∧ OwnS w b v l
def cellsP (bv wv rv ev : Value) (st : Pst) : Array Value := #[bv, .int .i64 (st.used : Int), wv, .int .i64 (st.left : Int), .int .i64 (st.size : Int), .int .i64 st.need, rv, ev]
def foot (p : Nat) (wv rv : Value) (rows : List Value) (g : Nat) : Prop := g = p ∨ wv.ownBlock = some g ∨ rv.ownBlock = some g ∨ ∃ v ∈ rows, v.ownBlock = some g
/-- the parser at block p, of which the bytes' field is bv -/
def PV (w : World) (p : Nat) (bv : Value) (st : Pst) (wv rv ev : Value) (rows : List Value) : Prop :=
  w.heap[p]? = some (.cells (cellsP bv wv rv ev st) 90 (0, 0)) ∧ OwnS w (p + 1) wv st.words ∧ w.ownsRow (p + 1) 22 1 rv rows.length rows ∧ Rdy w (p + 1) rows st.ready ∧
  noA wv rv ∧ (∀ v ∈ rows, noA v wv ∧ noA v rv) ∧ ErrV st.err ev
def PQ (w : World) (p : Nat) (bv : Value) (st : Pst) (F : Nat → Prop) : Prop := ∃ wv rv ev rows, PV w p bv st wv rv ev rows ∧ F = foot p wv rv rows
/-- what a call of the parser changes -/
structure Chg (w : World) (F : Nat → Prop) (w' : World) (F' : Nat → Prop) : Prop where
  os : w'.os = w.os
  tape : w'.tape = w.tape
  output : w'.output = w.output
  size : w.heap.size ≤ w'.heap.size
  block : ∀ g, g < w.heap.size → ¬ F g → w'.heap[g]? = w.heap[g]?
  foot : ∀ g, F' g → F g ∨ w.heap.size ≤ g
theorem Chg.refl (w : World) (F : Nat → Prop) : Chg w F w F := ⟨rfl, rfl, rfl, Nat.le_refl _, fun _ _ _ => rfl, fun _ h => .inl h⟩
theorem Chg.trans {a b c : World} {F G H : Nat → Prop} (h : Chg a F b G) (k : Chg b G c H) : Chg a F c H :=
  ⟨k.os.trans h.os, k.tape.trans h.tape, k.output.trans h.output, Nat.le_trans h.size k.size, fun g hg hf => (k.block g (Nat.lt_of_lt_of_le hg h.size) (fun hG => by rcases h.foot g hG with h1 | h1; exact hf h1; omega)).trans (h.block g hg hf),
   fun g hg => by
    rcases k.foot g hg with h1 | h1
    · exact h.foot g h1
    · exact .inr (Nat.le_trans h.size h1)⟩
theorem Chg.grown {w w' : World} {F F' : Nat → Prop} {r : Option Nat} (h : w.grownBy w' r) (hr : ∀ g, r = some g → F g) (hF : ∀ g, F' g → F g ∨ w.heap.size ≤ g) : Chg w F w' F' :=
  ⟨h.os, h.tape, h.output, h.size, fun g hg hf => h.block g hg (fun e => hf (hr g e.symm)), hF⟩
theorem Chg.below {w w' : World} {F : Nat → Prop} (h : Below w.heap.size w w') : Chg w F w' F := ⟨h.os, h.tape, h.output, h.size, fun g hg _ => h.block g hg, fun _ h => .inl h⟩
theorem Chg.under {W w w' : World} {F F' : Nat → Prop} (h : Chg w F w' F') (hW : Below W.heap.size W w) (hF : ∀ g, F g → W.heap.size ≤ g) : Below W.heap.size W w' :=
  ⟨h.os.trans hW.os, h.tape.trans hW.tape, h.output.trans hW.output, Nat.le_trans hW.size h.size, fun g hg => (h.block g (Nat.lt_of_lt_of_le hg hW.size) (fun hf => by have := hF g hf; omega)).trans (hW.block g hg)⟩
theorem PV.lt {w : World} {p : Nat} {bv wv rv ev : Value} {st : Pst} {rows : List Value} (h : PV w p bv st wv rv ev rows) : p < w.heap.size := (Array.getElem?_eq_some_iff.1 h.1).1
theorem PV.cell {w : World} {p : Nat} {bv wv rv ev : Value} {st : Pst} {rows : List Value} (h : PV w p bv st wv rv ev rows) (i : Nat) (v : Value) (hv : (cellsP bv wv rv ev st)[i]? = some v) : w.cell? ⟨p, i, none⟩ = some v := by
  rw [cell_of_row w p i _ _ _ h.1]
  exact hv
theorem Rdy.keep {w w' : World} {b : Nat} {rows : List Value} {ready : List (List (List UInt8))} (h : Rdy w b rows ready) (hb : ∀ v ∈ rows, ∀ g, v.ownBlock = some g → w'.heap[g]? = w.heap[g]?) : Rdy w' b rows ready :=
  ⟨h.1, fun i l hl => by
    obtain ⟨v, h1, h2⟩ := h.2 i l hl
    exact ⟨v, h1, h2.keep (hb v (List.mem_of_getElem? h1))⟩⟩
theorem ownsRow_keep {w w' : World} {b : Nat} {t : TypeId} {k : Nat} {v : Value} {n : Nat} {cs : List Value} (h : w.ownsRow b t k v n cs) (hb : ∀ g, v.ownBlock = some g → w'.heap[g]? = w.heap[g]?) : w'.ownsRow b t k v n cs := by
  obtain ⟨hl, h0 | ⟨g, cap, cur, hv, hg, hh, r⟩⟩ := h
  · exact ⟨hl, .inl h0⟩
  · exact ⟨hl, .inr ⟨g, cap, cur, hv, hg, by rw [hb g (by rw [hv]; rfl)]; exact hh, r⟩⟩
theorem Rdy.row {w : World} {b : Nat} {rows : List Value} {ready : List (List (List UInt8))} (h : Rdy w b rows ready) {v : Value} (hv : v ∈ rows) : ∃ l, OwnS w b v l := by
  obtain ⟨i, hi, e⟩ := List.mem_iff_getElem.1 hv
  have h1 : i < ready.length := by rw [← h.1]; exact hi
  obtain ⟨v', h2, h3⟩ := h.2 i _ (List.getElem?_eq_getElem h1)
  rw [List.getElem?_eq_getElem hi] at h2
  injection h2 with h2
  exact ⟨_, by rw [← e, h2]; exact h3⟩
/-- a call that leaves all that is there -/
theorem PV.below {w w' : World} {p : Nat} {bv wv rv ev : Value} {st : Pst} {rows : List Value} (h : PV w p bv st wv rv ev rows) (hb : Below w.heap.size w w') : PV w' p bv st wv rv ev rows :=
  ⟨(hb.block p h.lt).trans h.1, h.2.1.below hb, ownsRow_keep h.2.2.1 (fun g hg => hb.block g (h.2.2.1.lt g hg).2), h.2.2.2.1.keep (fun v hv g hg => by
    obtain ⟨l, ho⟩ := h.2.2.2.1.row hv
    exact hb.block g (ho.lt g hg).2), h.2.2.2.2⟩
/-- a store to the parser's own block -/
theorem PV.store {w w' : World} {p : Nat} {bv wv rv ev bv' ev' : Value} {st st' : Pst} {rows : List Value} (h : PV w p bv st wv rv ev rows) (hg : w.grownBy w' (some p)) (hp : w'.heap[p]? = some (.cells (cellsP bv' wv rv ev' st') 90 (0, 0)))
    (h1 : st'.words = st.words) (h2 : st'.ready = st.ready) (h3 : ErrV st'.err ev') : PV w' p bv' st' wv rv ev' rows := by
  have hne : ∀ g, p + 1 ≤ g → ¬ some g = some p := fun g hg e => by injection e with e; omega
  refine ⟨hp, ?_, ownsRow_keep h.2.2.1 (fun g hg' => hg.block g (h.2.2.1.lt g hg').2 (hne g (h.2.2.1.lt g hg').1)), ?_, h.2.2.2.2.1, h.2.2.2.2.2.1, h3⟩
  · rw [h1]
    exact h.2.1.keep (fun g hg' => hg.block g (h.2.1.lt g hg').2 (hne g (h.2.1.lt g hg').1))
  · rw [h2]
    exact h.2.2.2.1.keep (fun v hv g hg' => by
      obtain ⟨l, ho⟩ := h.2.2.2.1.row hv
      exact hg.block g (ho.lt g hg').2 (hne g (ho.lt g hg').1))
/-- bytes of a stretch of memory that may be empty -/
def Rest (w : World) (v : Value) (l : List UInt8) : Prop := ∃ a c, v = .slice a l.length c ∧ l.length ≤ c ∧ (0 < l.length → ∃ g o, a = some ⟨g, o, none⟩ ∧ BytesAt w g o l)
end Mm
end Go.Proofs.YtakldjdohgmeiaaDoor
