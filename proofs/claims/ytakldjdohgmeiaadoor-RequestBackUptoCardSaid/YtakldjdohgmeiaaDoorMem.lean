/- Laws on memory for the walks of this seat: bytes in rows that the call itself made. Conditions stand in each law. -/
import Derived.Test.YtakldjdohgmeiaaDoorPlain
import Derived.Test.YtakldjdohgmeiaaDoorProg
import Derived.Laws.OwnMore
import Derived.Deep.Draws
import Derived.Laws.IdiomStrings
namespace Go.Proofs.YtakldjdohgmeiaaDoor
open Go.RowKit
set_option maxRecDepth 20000

theorem Tryd.info_u8 : (Tryd.prog.info? 5).map (fun i => (i.zero, i.size, i.bytes)) = some (some (.int .u8 0), 1, 1) := by kernel_rfl

namespace Mm
open Pl

theorem below_drewN {B : Nat} (w : World) (n : Nat) : Below B w (w.drewN n) := ⟨rfl, rfl, rfl, Nat.le_refl _, fun _ _ => rfl⟩

/-- an owned row of bytes -/
def OwnB (w : World) (base : Nat) (v : Value) (l : List UInt8) : Prop := w.ownsRow base 5 1 v l.length (bytesV l)

theorem run_str (w : World) (base : Nat) (v : Value) (l : List UInt8) (h : OwnB w base v l) :
    (convert 24 9 v).run Tryd.prog w = .ok (.string (B l)) w := by
  rcases h.2 with ⟨rfl, h0⟩ | ⟨g, cap, cur, rfl, _, hg, _, _, _, htake⟩
  · rw [run_convert_bytes_nil w 24 5 Tryd.underlying24 Tryd.underlying5 0 0 9 Tryd.underlying9]
    rw [List.eq_nil_of_length_eq_zero h0]
    rfl
  · refine run_convert_bytes_back w 24 9 5 ⟨g, 0, none⟩ cap l Tryd.underlying24 Tryd.underlying5 Tryd.underlying9 ?_
    intro j hj
    refine h.cells (g := g) rfl j _ ?_
    simp [bytesV, byteV, List.getElem?_eq_getElem hj]

theorem wp_str {ops : Array Oper} {rest : List Oper} {o : Oper} {a : Act} {Q : Exit → Act → World → Prop} (w : World) (hgd : o.guard = none) (x : Operand) (ho : o.op = .convert 24 9 x)
    (base : Nat) (v : Value) (l : List UInt8) (hx : a.eval x = v) (h : OwnB w base v l) (hK : wpList Tryd.prog ops Q rest (a.put o.dst (.string (B l))) w) : wpList Tryd.prog ops Q (o :: rest) a w := by
  refine wpList_plain hgd fun K hK' => ?_
  have hrun := run_str w base v l h
  unfold Oper.wp
  simp [execOp, ho, hx, hrun, Result.andThen]
  exact hK' _ _ hK

/-- 'make([]byte, 0, n)' -/
theorem wp_make0 {ops : Array Oper} {rest : List Oper} {o : Oper} {a : Act} {Q : Exit → Act → World → Prop} (w : World) (hgd : o.guard = none) (x y : Operand) (ho : o.op = .makeSlice 24 x y)
    (C : Int) (hx : a.eval x = .int .i64 0) (hy : a.eval y = .int .i64 C) (h0 : 0 ≤ C) (h1 : C ≤ 281474976710656)
    (hK : ∀ v w', OwnB w' w.heap.size v [] → Below w.heap.size w w' → wpList Tryd.prog ops Q rest (a.put o.dst v) w') : wpList Tryd.prog ops Q (o :: rest) a w := by
  obtain ⟨i0, hi, hz0, hz1, hz2⟩ := info_parts Tryd.info_u8
  obtain ⟨n, rfl⟩ := Int.eq_ofNat_of_zero_le h0
  refine wpList_make_own w hgd x y 24 ho w.heap.size 5 i0 (.int .u8 0) 1 Tryd.underlying24 hi hz0 hz1 .i64 .i64 _ n hx hy rfl (by rw [hz2]; omega) (by unfold maxLen; omega) (Nat.le_refl _) ?_
  intro w' h1 h2
  exact hK _ _ h1 ((Below.refl _ _).grown h2 (Nat.le_refl _) (fun k hk => by cases hk))

/-- 'append(out, c)': the byte lies in the block that the walk has just laid -/
theorem wp_app1 {ops : Array Oper} {rest : List Oper} {o : Oper} {a : Act} {Q : Exit → Act → World → Prop} (w : World) (hgd : o.guard = none) (x y : Operand)
    (ho : o.op = .call { callee := .builtin .append, args := #[x, y], argTypes := #[24, 24] })
    (base : Nat) (v : Value) (l : List UInt8) (c : UInt8) (hx : a.eval x = v) (hy : a.eval y = .slice (some ⟨w.heap.size, 0, none⟩) 1 1) (h : OwnB w base v l) (hl : l.length < 140737488355328) (hbase : base ≤ w.heap.size)
    (hK : ∀ v' w', OwnB w' base v' (l ++ [c]) → Below base w w' → wpList Tryd.prog ops Q rest (a.put o.dst v') w') :
    wpList Tryd.prog ops Q (o :: rest) a (w.alloc (.cells #[.int .u8 c.toNat] 5)) := by
  obtain ⟨i0, hi, hz0, hz1, hz2⟩ := info_parts Tryd.info_u8
  refine wpList_append_own _ hgd x y 24 ho base 5 i0 (.int .u8 0) 1 1 Tryd.underlying24 hi hz0 hz1 hz2 rfl (by decide) v l.length (bytesV l) hx (h.alloc _) ⟨w.heap.size, 0, none⟩ 1 1 [byteV c] hy rfl ?_ ?_ ?_ ?_ ?_ ?_
  · intro j u hj
    match j, hj with
    | 0, hj =>
      simp at hj
      subst hj
      simp [Addr.add, byteV]
  · intro u hu
    simp at hu
    subst hu
    rfl
  · unfold maxLen; omega
  · omega
  · simp; omega
  · intro v' w' h1 h2 _
    refine hK v' w' (by unfold OwnB; rw [bytesV_append, List.length_append]; exact h1) (((Below.refl _ _).alloc hbase _).grown h2 (by simp; omega) (fun k hk => (h.lt k hk).1))
/-- 'append(out, c)', the byte as a number -/
theorem wp_appI {ops : Array Oper} {rest : List Oper} {o : Oper} {a : Act} {Q : Exit → Act → World → Prop} (w : World) (hgd : o.guard = none) (x y : Operand)
    (ho : o.op = .call { callee := .builtin .append, args := #[x, y], argTypes := #[24, 24] })
    (base : Nat) (v : Value) (l : List UInt8) (c : Int) (hx : a.eval x = v) (hy : a.eval y = .slice (some ⟨w.heap.size, 0, none⟩) 1 1) (h : OwnB w base v l) (hc0 : 0 ≤ c) (hc1 : c ≤ 255) (hl : l.length < 140737488355328) (hbase : base ≤ w.heap.size)
    (hK : ∀ v' w', OwnB w' base v' (l ++ [ofI c]) → Below base w w' → wpList Tryd.prog ops Q rest (a.put o.dst v') w') :
    wpList Tryd.prog ops Q (o :: rest) a (w.alloc (.cells #[.int .u8 c] 5)) := by
  have := ofI_nat hc0 hc1
  rw [← this]
  exact wp_app1 w hgd x y ho base v l (ofI c) hx hy h hl hbase hK

/-- '[]byte(s)': new memory that holds the text's bytes -/
theorem wp_tobytes {ops : Array Oper} {rest : List Oper} {o : Oper} {a : Act} {Q : Exit → Act → World → Prop} (w : World) (hgd : o.guard = none) (x : Operand) (ho : o.op = .convert 9 24 x)
    (s : ByteArray) (hx : a.eval x = .string s)
    (hK : ∀ c w', s.size ≤ c → w'.heap.size = w.heap.size + 1 → (∀ j, j < s.size → w'.cell? ⟨w.heap.size, j, none⟩ = some (.int .u8 (at_ (L s) j))) → (∀ j, j < s.size → w'.frozen? ⟨w.heap.size, j, none⟩ = false) → Below w.heap.size w w' →
      wpList Tryd.prog ops Q rest (a.put o.dst (.slice (some ⟨w.heap.size, 0, none⟩) s.size c)) w') : wpList Tryd.prog ops Q (o :: rest) a w := by
  refine wpList_plain hgd fun K hK' => ?_
  have hrun := run_bytes_of_string (P := Tryd.prog) w 9 24 5 s Tryd.underlying9 Tryd.underlying24 Tryd.underlying5
  unfold Oper.wp
  simp [execOp, ho, hx, hrun, Result.andThen]
  refine hK' _ _ (hK _ _ (grownCap_ge _ _ _ _) (by simp) ?_ ?_ (((Below.refl _ _).drew).alloc (by simp) _))
  · intro j hj
    have hj' : j < s.data.size := hj
    rw [show w.heap.size = w.drew.heap.size from rfl, World.cell?_alloc_mark, bytesRow_at s _ j hj']
    congr 1
    unfold at_
    have := L_get s j hj
    congr 2
    rw [← this]
    rfl
  · intro j hj
    rw [show w.heap.size = w.drew.heap.size from rfl, World.frozen?_alloc_mark]
    have : (bytesRow s (grownCap w s.size 0 5)).size = grownCap w s.size 0 5 := by
      have h1 : s.data.size = s.size := rfl
      have h2 := grownCap_ge w s.size 0 5
      unfold bytesRow
      rw [Array.size_append, Array.size_map, Array.size_replicate, h1]
      omega
    rw [this]
    have h2 := grownCap_ge w s.size 0 5
    simp
    omega
/-- block g is just these bytes -/
def BlkB (w : World) (g : Nat) (l : List UInt8) : Prop := w.heap[g]? = some (.cells (bytesV l).toArray 5 (0, 0))
theorem BlkB.lt {w : World} {g : Nat} {l : List UInt8} (h : BlkB w g l) : g < w.heap.size := (Array.getElem?_eq_some_iff.1 h).1
theorem BlkB.cell {w : World} {g : Nat} {l : List UInt8} (h : BlkB w g l) (i : Nat) (hi : i < l.length) : w.cell? ⟨g, i, none⟩ = some (.int .u8 (at_ l i)) := by
  rw [cell_of_row w g i _ _ _ h]
  simp [bytesV, byteV, at_, List.getElem?_eq_getElem hi, List.getD_eq_getElem?_getD]
theorem BlkB.frozen {w : World} {g : Nat} {l : List UInt8} (h : BlkB w g l) (i : Nat) : w.frozen? ⟨g, i, none⟩ = false := by
  unfold BlkB at h
  simp [World.frozen?, h]
theorem BlkB.own {w : World} {g base : Nat} {l : List UInt8} (h : BlkB w g l) (hb : base ≤ g) (hl : l.length ≤ maxLen) : OwnB w base (.slice (some ⟨g, 0, none⟩) l.length l.length) l :=
  ⟨by simp [bytesV], .inr ⟨g, l.length, _, rfl, hb, h, Nat.le_refl _, hl, by simp [bytesV], by rw [Nat.mul_one, ← bytesV_length l]; simp⟩⟩

/-- 'make([]byte, n)' -/
theorem wp_makeN {ops : Array Oper} {rest : List Oper} {o : Oper} {a : Act} {Q : Exit → Act → World → Prop} (w : World) (hgd : o.guard = none) (x y : Operand) (ho : o.op = .makeSlice 24 x y)
    (C : Int) (hx : a.eval x = .int .i64 C) (hy : a.eval y = .int .i64 C) (h0 : 0 ≤ C) (h1 : C ≤ 281474976710656)
    (hK : ∀ w', BlkB w' w.heap.size (List.replicate C.toNat 0) → w'.heap.size = w.heap.size + 1 → Below w.heap.size w w' → wpList Tryd.prog ops Q rest (a.put o.dst (.slice (some ⟨w.heap.size, 0, none⟩) C.toNat C.toNat)) w') : wpList Tryd.prog ops Q (o :: rest) a w := by
  obtain ⟨i0, hi, hz0, hz1, hz2⟩ := info_parts Tryd.info_u8
  refine wpList_plain hgd fun K hK' => ?_
  have hrun := run_make (P := Tryd.prog) w 24 5 i0 (.int .u8 0) Tryd.underlying24 hi hz0 .i64 .i64 C C h0 (Int.le_refl _) (by rw [hz2]; omega) (by omega)
  unfold Oper.wp
  simp [execOp, ho, hx, hy, hrun, Result.andThen]
  refine hK' _ _ (hK _ ?_ (by simp) ((Below.refl _ _).alloc (Nat.le_refl _) _))
  unfold BlkB
  rw [heap_alloc_new]
  congr 2
  rw [hz1, Nat.mul_one]
  apply Array.ext
  · simp [madeCells, bytesV]
  · intro i h2 h3
    simp [madeCells, bytesV, byteV, Value.cells]
    rw [Nat.mod_one]
    rfl

/-- 'copy(b[o:], s)', s a text -/
theorem wp_copystr {ops : Array Oper} {rest : List Oper} {op : Oper} {a : Act} {Q : Exit → Act → World → Prop} (w : World) (hgd : op.guard = none) (x y : Operand)
    (ho : op.op = .call { callee := .builtin .copy, args := #[x, y], argTypes := #[24, 9] }) (g o dl dc : Nat) (l : List UInt8) (s : ByteArray) (h : BlkB w g l)
    (hx : a.eval x = .slice (some ⟨g, o, none⟩) dl dc) (hy : a.eval y = .string s) (hfit : s.size ≤ dl) (hin : o + s.size ≤ l.length)
    (hK : ∀ w', BlkB w' g (spl l o (L s)) → w'.heap.size = w.heap.size → (∀ B, B ≤ g → Below B w w') → wpList Tryd.prog ops Q rest (a.put op.dst (goInt s.size)) w') : wpList Tryd.prog ops Q (op :: rest) a w := by
  obtain ⟨i0, hi, hz0, hz1, hz2⟩ := info_parts Tryd.info_u8
  have hn : Nat.min s.size dl = s.size := Nat.min_eq_left hfit
  have hst := run_storeCells_at Tryd.prog g o 5 (bytesV (L s)) 0 _ w h (by simp [bytesV, L_length]; omega) (bytesV_one _)
  have hmap : List.take s.size (List.map (fun b => Value.int .u8 (b.toNat : Int)) s.data.toList) = bytesV (L s) := by
    rw [List.take_of_length_le (by rw [List.length_map, Array.length_toList]; exact Nat.le_refl _)]
    rfl
  have hrun : (Builtin.copy_ #[24, 9] op.type #[.slice (some ⟨g, o, none⟩) dl dc, .string s]).run Tryd.prog w =
      .ok (goInt s.size) (w.setRow g ((bytesV l).take o ++ bytesV (L s) ++ (bytesV l).drop (o + (bytesV (L s)).length)).toArray) := by
    simp only [Nat.add_zero] at hst
    simp [Builtin.copy_, run_underlying Tryd.underlying24, sizeOf, typeInfo, hi, Builtin.lenOf, hn, Builtin.firstCells]
    rw [hmap, hst]
    simp
  refine wpList_plain hgd fun K hK' => ?_
  unfold Oper.wp execOp
  simp only [ho, resolve, invoke, builtin, Sem.run_bind, Sem.run_pure, Result.andThen_ok, List.map_toArray, List.map_cons, List.map_nil, hx, hy, hrun]
  refine hK' _ _ (hK _ ?_ (by simp [World.setRow]) (fun B hB => ⟨rfl, rfl, rfl, by simp [World.setRow], fun k hk => setRow_other w g k _ (by omega)⟩))
  unfold BlkB
  rw [setRow_heap w g _ _ _ _ h]
  simp [spl, bytesV]

/-- 'string(b)', b a whole block -/
theorem wp_strN {ops : Array Oper} {rest : List Oper} {o : Oper} {a : Act} {Q : Exit → Act → World → Prop} (w : World) (hgd : o.guard = none) (x : Operand) (ho : o.op = .convert 24 9 x)
    (g n c : Nat) (l : List UInt8) (h : BlkB w g l) (hx : a.eval x = .slice (some ⟨g, 0, none⟩) n c) (hn : l.length = n) (hK : wpList Tryd.prog ops Q rest (a.put o.dst (.string (B l))) w) : wpList Tryd.prog ops Q (o :: rest) a w := by
  subst hn
  refine wpList_plain hgd fun K hK' => ?_
  have hrun := run_convert_bytes_back w 24 9 5 ⟨g, 0, none⟩ c l Tryd.underlying24 Tryd.underlying5 Tryd.underlying9 (fun j hj => by
    have e : (⟨g, 0, none⟩ : Addr).add j = ⟨g, j, none⟩ := by unfold Addr.add; split <;> simp_all
    rw [e, h.cell j hj]
    simp [at_, List.getD_eq_getElem?_getD, List.getElem?_eq_getElem hj])
  unfold Oper.wp
  simp [execOp, ho, hx, hrun, Result.andThen]
  exact hK' _ _ hK

/-- 'b[i] = c' -/
theorem wp_storeB {ops : Array Oper} {rest : List Oper} {o : Oper} {a : Act} {Q : Exit → Act → World → Prop} (w : World) (hgd : o.guard = none) (x y : Operand) (ho : o.op = .store 5 x y)
    (g i : Nat) (l : List UInt8) (c : Int) (h : BlkB w g l) (hx : a.eval x = .pointer (some ⟨g, i, none⟩)) (hy : a.eval y = .int .u8 c) (h0 : 0 ≤ c) (h1 : c ≤ 255) (hi : i < l.length)
    (hK : ∀ w', BlkB w' g (l.set i (ofI c)) → w'.heap.size = w.heap.size → (∀ B, B ≤ g → Below B w w') → wpList Tryd.prog ops Q rest (a.put o.dst undef) w') : wpList Tryd.prog ops Q (o :: rest) a w := by
  refine wpList_plain hgd fun K hK' => ?_
  obtain ⟨i0, hi0, hz0, hz1, hz2⟩ := info_parts Tryd.info_u8
  have hst := run_storeCells_at Tryd.prog g i 5 [Value.int .u8 c] 0 _ w h (by simp [bytesV]; omega) (by intro v hv; simp at hv; subst hv; rfl)
  have hrun : (Instr.storeAt 5 (.pointer (some ⟨g, i, none⟩)) (.int .u8 c)).run Tryd.prog w =
      .ok () (w.setRow g ((bytesV l).take i ++ [Value.int .u8 c] ++ (bytesV l).drop (i + 1)).toArray) := by
    simp only [Nat.add_zero] at hst
    simp [Instr.storeAt, Instr.sureAddr, storeVar, sizeOf, typeInfo, hi0, hz1, Value.cells]
    rw [hst]
    simp
  unfold Oper.wp execOp
  simp only [ho, hx, hy, Sem.run_bind, Sem.run_pure, Result.andThen_ok, hrun]
  refine hK' _ _ (hK _ ?_ (by simp [World.setRow]) (fun B hB => ⟨rfl, rfl, rfl, by simp [World.setRow], fun k hk => setRow_other w g k _ (by omega)⟩))
  unfold BlkB
  rw [setRow_heap w g _ _ _ _ h]
  have hb : byteV (ofI c) = .int .u8 c := by
    unfold byteV
    rw [ofI_nat h0 h1]
  congr 3
  rw [List.set_eq_take_append_cons_drop]
  simp [bytesV, hi, hb]
end Mm
end Go.Proofs.YtakldjdohgmeiaaDoor
