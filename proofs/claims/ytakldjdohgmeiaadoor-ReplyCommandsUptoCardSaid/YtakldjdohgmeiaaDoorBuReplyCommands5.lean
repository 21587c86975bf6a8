/- pantrylaw16's same and spoil. Conditions stand in each law. bytes.IndexAny(b, "\r\n") at every row of bytes: the set of ASCII. Conditions stand in each law. Conditions stand in each law. -/
import Derived.Test.YtakldjdohgmeiaaDoorBuReplyCommands4
import Derived.BigQuiet
import Derived.Test.YtakldjdohgmeiaaDoorBuReplyCommands2
import Derived.Shelf.Strings.AsciiSet
namespace Go.Proofs.YtakldjdohgmeiaaDoor
open Go.RowKit
set_option maxRecDepth 20000

namespace Mm
open Pl
/-- a slice of bytes that can be read -/
def BytesR (w : World) (v : Value) (l : List UInt8) : Prop :=
  ∃ p c, v = .slice p l.length c ∧ (l.length = 0 ∨ ∃ g o, p = some ⟨g, o, none⟩ ∧ g < w.heap.size ∧ BytesAt w g o l)
theorem BytesR.below {w w' : World} {v : Value} {l : List UInt8} (h : BytesR w v l) (hb : Below w.heap.size w w') : BytesR w' v l := by
  obtain ⟨p, c, hv, h0 | ⟨g, o, hp, hg, hm⟩⟩ := h
  · exact ⟨p, c, hv, .inl h0⟩
  · exact ⟨p, c, hv, .inr ⟨g, o, hp, Nat.lt_of_lt_of_le hg hb.size, hm.keep (hb.block g hg)⟩⟩
theorem OwnB.bytesR {w : World} {b : Nat} {v : Value} {l : List UInt8} (h : OwnB w b v l) : BytesR w v l := by
  obtain ⟨a, c, rfl, h0 | ⟨g, rfl, _, hg, _⟩⟩ := h.val
  · exact ⟨_, _, rfl, .inl h0.1⟩
  · exact ⟨_, _, rfl, .inr ⟨g, 0, rfl, hg, h.bytesAt⟩⟩
end Mm

/-- the same bytes are told to be the same -/
theorem same16_eq (va vb : Value) (l : List UInt8) (w : World) (hl : l.length ≤ 9223372036854775807) (ha : Mm.BytesR w va l) (hb : Mm.BytesR w vb l) :
    Calls Tryd.prog 14 #[va, vb] w fun e w' => e = .returned (.bool true) ∧ Below w.heap.size w w' := by
  obtain ⟨pa, ca, rfl, ha⟩ := ha
  obtain ⟨pb, cb, rfl, hb⟩ := hb
  obtain ⟨n, hn⟩ : ∃ n, n = l.length := ⟨_, rfl⟩
  rw [← hn] at ha hb hl ⊢
  have HA := Pl.hid ha
  have HB := Pl.hid hb
  have HN := Pl.hid hn
  clear ha hb hn
  go_enter Tryd.func14, Tryd.ntmps14
  go_wp2_with fail
  go_loopw [13] (fun iv wr => ∃ i : Nat, iv = .int .i64 i ∧ i ≤ n ∧ Hid (Below w.heap.size w wr)) (fun iv _ => n - (intOf iv).toNat)
  case atStart => exact ⟨0, rfl, Nat.zero_le _, Below.refl _ _⟩
  case round =>
    obtain ⟨i, rfl, hi, HR⟩ := hrel
    rcases Nat.lt_or_ge i n with hlt | hge
    · rcases HA.out with h0 | ⟨g, o, rfl, hg, hm⟩
      · omega
      rcases HB.out with h0 | ⟨g', o', rfl, hg', hm'⟩
      · omega
      have hc := (HR.out.cell (p := ⟨g, o + i, none⟩) hg).trans (hm i (by rw [← HN.out]; exact hlt))
      have hc' := (HR.out.cell (p := ⟨g', o' + i, none⟩) hg').trans (hm' i (by rw [← HN.out]; exact hlt))
      have HX := Pl.hid hm
      have HX' := Pl.hid hm'
      clear hm hm'
      go_wp2_with fail
      go_quiet (fail)
      go_wp2_with fail
      go_roundw
      case rel => exact ⟨i + 1, by go_num, by omega, HR.out.trans (Mm.below_drewN _ _)⟩
      case measure => simp [intOf]; omega
    · go_wp2_with fail
      go_ret
      exact ⟨rfl, HR.out⟩

/-- what spoil touches: the row's block, and what is new -/
theorem Mm.ShR.slice {w : World} {lo : Nat} {e : TypeId} {z : Nat} {v : Value} {n : Nat} (h : Mm.ShR w lo e z v n) (hn : 0 < n) : ∃ g c, v = .slice (some ⟨g, 0, none⟩) n c ∧ v.ownBlock = some g := by
  rcases h with ⟨rfl, rfl⟩ | ⟨g, cap, cur, rfl, _⟩
  · omega
  · exact ⟨g, cap, rfl, rfl⟩

theorem Mm.grown_low {w a b : World} {row : Option Nat} {B : Nat} (h : w.grownBy a row) (hb : Below B a b) (hB : w.heap.size ≤ B) : w.grownBy b row :=
  ⟨hb.os.trans h.os, hb.tape.trans h.tape, hb.output.trans h.output, Nat.le_trans h.size hb.size, fun g hg hne => (hb.block g (Nat.lt_of_lt_of_le hg hB)).trans (h.block g hg hne)⟩
theorem Mm.ShR.low {w w' : World} {lo : Nat} {e : TypeId} {z : Nat} {v : Value} {n : Nat} {B : Nat} (h : Mm.ShR w lo e z v n) (hb : Below B w w') (hv : ∀ k, v.ownBlock = some k → k < B) : Mm.ShR w' lo e z v n := by
  rcases h with h0 | ⟨g, cap, cur, rfl, h2, h3, h4, h5, h6⟩
  · exact .inl h0
  · exact .inr ⟨g, cap, cur, rfl, h2, (hb.block g (hv g rfl)).trans h3, h4, h5, h6⟩

set_option maxHeartbeats 4000000 in
theorem spoil_walk (lo : Nat) (v : Value) (n : Nat) (w : World) (hn : n ≤ 1099511627776) (hv : Mm.ShR w lo 5 1 v n) (hlo : lo ≤ w.heap.size) :
    Calls Tryd.prog 22 #[v] w fun e w' => (∃ u, e = .returned u) ∧ w.grownBy w' v.ownBlock := by
  obtain ⟨va, vc, hvv, hva⟩ : ∃ a c, v = .slice a n c ∧ (n = 0 ∨ ∃ g, a = some ⟨g, 0, none⟩ ∧ v.ownBlock = some g) := by
    rcases hv with ⟨rfl, rfl⟩ | ⟨g, cap, cur, rfl, _⟩
    · exact ⟨none, 0, rfl, .inl rfl⟩
    · exact ⟨_, _, rfl, .inr ⟨g, rfl, rfl⟩⟩
  have HV := Pl.hid hv
  have HVA := Pl.hid hva
  have HLO := Pl.hid hlo
  obtain ⟨row, hrow⟩ : ∃ row, row = v.ownBlock := ⟨_, rfl⟩
  have HROW := Pl.hid hrow
  rw [← hrow] at HVA ⊢
  subst hvv
  clear hv hva hlo hrow
  go_enter Tryd.func22, Tryd.ntmps22
  go_wp2_with fail
  go_loopw [8] (fun iv wr => ∃ i : Nat, iv = .int .i64 i ∧ i ≤ n ∧ Hid (w.grownBy wr row) ∧ Hid (Mm.ShR wr lo 5 1 (.slice va n vc) n)) (fun iv _ => n - (intOf iv).toNat)
  case atStart => exact ⟨0, rfl, Nat.zero_le _, Mm.grown_below (Below.refl _ _), HV.out⟩
  case round =>
    obtain ⟨i, rfl, hi, HG, HS⟩ := hrel
    rcases Nat.lt_or_ge i n with hlt | hge
    · rcases HVA.out with h0 | ⟨g, rfl, hrow⟩
      · omega
      have HROW2 := Pl.hid hrow
      clear hrow
      go_wp2_with (refine Mm.wp_storeSh wr rfl _ _ rfl lo g i n vc 90 HS.out (by rfl) (by rfl) hlt ?_; intro w2 hs2 hg2 hp2; have HS2 := Pl.hid (HS.out.shp hp2); have HG2 := Pl.hid (Mm.grown_step HG.out hg2 (fun k hk => .inl (by rw [HROW2.out, hk]))); clear hs2 hg2 hp2)
      exact ⟨⟨i + 1, by go_num, hlt, HG2.out, HS2.out⟩, by simp [intOf]; omega⟩
    · have HWR : Hid (w.heap.size ≤ wr.heap.size ∧ lo ≤ wr.heap.size) := ⟨HG.out.size, Nat.le_trans HLO.out HG.out.size⟩
      have hd9 : decide (i < n) = false := decide_eq_false (by omega)
      go_wp2_with fail
      clear hd9
      go_loopw [3, 16] (fun vv jv wr => ∃ (j : Nat), jv = .int .i64 j ∧ j ≤ 20 ∧ Hid (w.grownBy wr row) ∧ Hid (Mm.ShR wr lo 5 1 (.slice va n vc) n) ∧ Hid (Mm.ShR wr lo 5 1 vv (n + j)) ∧ Hid (∀ k, vv.ownBlock = some k → some k = row ∨ w.heap.size ≤ k)) (fun _ jv _ => 20 - (intOf jv).toNat)
      case atStart => exact ⟨0, rfl, Nat.zero_le _, HG.out, HS.out, HS.out, fun k hk => .inl (by rw [HROW.out, hk])⟩
      case round =>
        obtain ⟨j, rfl, hj, HG3, HS3, HV3, HO3⟩ := hrel
        have HLO3 : Hid (lo ≤ wr.heap.size ∧ w.heap.size ≤ wr.heap.size ∧ n + j < 140737488355328) := ⟨Nat.le_trans HLO.out HG3.out.size, HG3.out.size, by omega⟩
        rcases Nat.lt_or_ge j 20 with hlt | hge2
        · go_wp2_with (at_builtin; refine Mm.wp_app1Sh wr rfl _ _ (by rfl) lo u3 (n + j) 91 (by rfl) (by rfl) HV3.out HLO3.out.2.2 HLO3.out.1 ?_; intro v4 w4 hs4 hg4 hb4 hp4; have HS4 := Pl.hid hs4; have HP4 := Pl.hid (HS3.out.shp hp4); have HG4 := Pl.hid (Mm.grown_step HG3.out hg4 HO3.out); have HO4 : Hid (∀ k, v4.ownBlock = some k → some k = row ∨ w.heap.size ≤ k) := (fun k hk => by
              rcases hb4 with hb4 | ⟨k', hb4, hk'⟩
              · exact HO3.out k (hb4 ▸ hk)
              · rw [hb4] at hk; injection hk with hk; exact .inr (by have := HLO3.out.2.1; omega)); clear hs4 hg4 hb4 hp4)
          go_roundw
          case rel => exact ⟨j + 1, by go_num, hlt, HG4.out, HP4.out, HS4.out, HO4.out⟩
          case measure => simp [intOf]; omega
        · obtain rfl : j = 20 := by omega
          go_wp2_with (refine Mm.wp_makeN wr rfl _ _ rfl 70 (by rfl) (by rfl) (by decide) (by decide) ?_; intro wm hm1 hm2 hm3; have HM1 := Pl.hid hm1; have HM2 := Pl.hid hm2; have HM3 := Pl.hid hm3; clear hm1 hm2 hm3)
          obtain ⟨gm, hgm⟩ : ∃ gm, gm = wr.heap.size := ⟨_, rfl⟩
          rw [← hgm] at HM1 HM2 HM3
          rw [← hgm]
          have HGM := Pl.hid hgm
          have HG5 : Hid (w.grownBy wm row) := Mm.grown_step HG3.out (Mm.grown_below (row := none) (by rw [← HGM.out]; exact HM3.out)) (fun k hk => by cases hk)
          have HS5 : Hid (Mm.ShR wm lo 5 1 (.slice va n vc) n) := HS3.out.shp (Mm.Shp.below (by rw [← HGM.out]; exact HM3.out))
          have HGM7 : Hid (w.heap.size ≤ gm) := by have := HG3.out.size; show _ ≤ _; rw [HGM.out]; exact this
          have HLT5 : Hid (∀ k, (Value.slice va n vc).ownBlock = some k → k < gm) := (fun k hk => by rw [HGM.out]; exact (HS3.out.lt hk).2)
          clear hgm
          go_loopw [25] (fun kv wr => ∃ (k : Nat) (m : List UInt8), kv = .int .i64 k ∧ k ≤ 70 ∧ m.length = 70 ∧ Hid (Mm.BlkB wr gm m) ∧ Hid (w.grownBy wr row) ∧ Hid (Mm.ShR wr lo 5 1 (.slice va n vc) n)) (fun kv _ => 70 - (intOf kv).toNat)
          case atStart => exact ⟨0, _, rfl, Nat.zero_le _, by decide, HM1.out, HG5.out, HS5.out⟩
          case round =>
            obtain ⟨k, m, rfl, hk, hm, HB6, HG6, HS6⟩ := hrel
            have HML := Pl.hid hm
            clear hm
            have HLO6 : Hid (lo ≤ wr.heap.size ∧ n + 70 < 140737488355328) := ⟨Nat.le_trans HLO.out HG6.out.size, by omega⟩
            rcases Nat.lt_or_ge k 70 with hlt | hge3
            · go_wp2_with (refine Mm.wp_storeB wr rfl _ _ rfl gm k m 92 HB6.out (by rfl) (by rfl) (by decide) (by decide) (by rw [HML.out]; exact hlt) ?_; intro w7 hb7 hs7 hl7; have HB7 := Pl.hid hb7; have HG7 := Pl.hid (Mm.grown_low HG6.out (hl7 gm (Nat.le_refl _)) HGM7.out); have HS7 := Pl.hid (HS6.out.low (hl7 gm (Nat.le_refl _)) HLT5.out); clear hb7 hs7 hl7)
              exact ⟨⟨k + 1, _, by go_num, hlt, by rw [List.length_set]; exact HML.out, HB7.out, HG7.out, HS7.out⟩, by simp [intOf]; omega⟩
            · go_wp2_with (first
                | (at_builtin; refine Mm.wp_appMSh wr rfl _ _ (by rfl) lo (.slice va n vc) n gm 70 m 70 HML.out (by rfl) (by rfl) HS6.out HB6.out (by rw [HML.out]; exact HLO6.out.2) HLO6.out.1 ?_; intro v8 w8 hs8 hg8 hb8 hp8; rw [HML.out] at hs8; obtain ⟨g8, c8, rfl, ho8⟩ := hs8.slice (by omega); have HS8 := Pl.hid hs8; have HG8 := Pl.hid (Mm.grown_step HG6.out hg8 (fun k hk => .inl (by rw [HROW.out, hk]))); have HO8 : Hid (some g8 = row ∨ w.heap.size ≤ g8) := (by
                      show _ ∨ _
                      rw [ho8] at hb8
                      rcases hb8 with hb8 | hb8
                      · exact .inl (by rw [hb8, HROW.out])
                      · injection hb8 with hb8
                        exact .inr (by rw [hb8]; exact HG6.out.size)); clear hs8 hg8 hb8 hp8 ho8)
                | (refine Mm.wp_storeSh w8 rfl _ _ rfl lo g8 0 (n + 70) c8 93 HS8.out (by rfl) (by rfl) (by omega) ?_; intro w9 hs9 hg9 hp9; have HG9 := Pl.hid (Mm.grown_step HG8.out hg9 (fun k hk => by injection hk with hk; subst hk; exact HO8.out)); clear hs9 hg9 hp9))
              go_end0
              exact ⟨⟨_, rfl⟩, HG9.out⟩
end Go.Proofs.YtakldjdohgmeiaaDoor

namespace Go.Proofs.YtakldjdohgmeiaaDoor
open Go.RowKit Go.Lib
set_option maxRecDepth 20000

theorem setInfo : (Tryd.prog.info? 132).map (fun i => (i.zero, i.size)) = some (some (.agg (Array.replicate 256 (.bool false))), 256) := by kernel_rfl
theorem setSize : (Tryd.prog.info? 132).map (·.size) = some 256 := by kernel_rfl

/-- a load, whose run is known -/
theorem Mm.wp_loadAt {ops : Array Oper} {rest : List Oper} {op : Oper} {a : Act} {Q : Exit → Act → World → Prop} (w : World) (hgd : op.guard = none) (T : TypeId) (x : Operand) (ho : op.op = .load T x)
    (p : Value) (v : Value) (hx : a.eval x = p) (hr : (Instr.loadAt T p).run Tryd.prog w = .ok v w) (hK : wpList Tryd.prog ops Q rest (a.put op.dst v) w) : wpList Tryd.prog ops Q (op :: rest) a w := by
  refine wpList_plain hgd fun K hK' => ?_
  unfold Oper.wp execOp
  simp only [ho, hx, Sem.run_bind, Sem.run_pure, Result.andThen_ok, hr]
  exact hK' _ _ hK
/-- a store, whose run is known -/
theorem Mm.wp_storeAt {ops : Array Oper} {rest : List Oper} {op : Oper} {a : Act} {Q : Exit → Act → World → Prop} (w w' : World) (hgd : op.guard = none) (T : TypeId) (x y : Operand) (ho : op.op = .store T x y)
    (p : Value) (v : Value) (hx : a.eval x = p) (hy : a.eval y = v) (hr : (Instr.storeAt T p v).run Tryd.prog w = .ok () w') (hK : wpList Tryd.prog ops Q rest (a.put op.dst undef) w') : wpList Tryd.prog ops Q (op :: rest) a w := by
  refine wpList_plain hgd fun K hK' => ?_
  unfold Oper.wp execOp
  simp only [ho, hx, hy, Sem.run_bind, Sem.run_pure, Result.andThen_ok, hr]
  exact hK' _ _ hK

set_option maxHeartbeats 4000000 in
set_option maxRecDepth 1000000 in
theorem bmake_walk (chars : ByteArray) (w : World) (hs : chars.size < 4294967281) (hascii : ∀ (j : Nat) b, chars.data.toList[j]? = some b → b.toNat < 128) :
    Calls Tryd.prog 104 #[.string chars] w fun e w' => e = .returned (.tuple #[.agg (Lib.setCells chars.data.toList), .bool true]) ∧ w' = w.alloc (.cells (Lib.setCells chars.data.toList) 132) := by
  have HA : Aside (∀ (j : Nat) b, chars.data.toList[j]? = some b → b.toNat < 128) := hascii
  have hv116 := (zero_of_info setInfo).1
  clear hascii
  go_enter Tryd.func104, Tryd.ntmps104
  go_wp2
  rw [← Lib.setCells_nil]
  go_loopg [4] chars.size (fun g s4 wx => ∃ i : Nat, i + g = chars.size ∧ s4 = .int .i64 i ∧ wx = w.alloc (.cells (Lib.setCells (chars.data.toList.take i)) 132))
  case atStart => exact ⟨0, by omega, rfl, rfl⟩
  case round =>
    obtain ⟨i, hig, rfl, rfl⟩ := hrel
    cases gk with
    | zero =>
      obtain rfl : i = chars.size := by omega
      have hiz : ¬ ((chars.size : Int) < (chars.size : Int)) := by omega
      rw [show chars.data.toList.take chars.size = chars.data.toList from List.take_of_length_le (by rw [← Lib.size_eq]; exact Nat.le_refl _)]
      have hld := run_loadVar_new (P := Tryd.prog) w 132 (Lib.setCells chars.data.toList) 256 4 Tryd.underlying132 (by rw [Lib.setCells_size]; exact setSize)
      have hsz := Lib.setCells_size chars.data.toList
      have hla := run_loadAt_new (P := Tryd.prog) w 132 (Lib.setCells chars.data.toList) 256 4 Tryd.underlying132 (by rw [Lib.setCells_size]; exact setSize)
      have hsa := run_storeAt_new (P := Tryd.prog) w 132 (Lib.setCells chars.data.toList) (Lib.setCells chars.data.toList) (by rw [hsz]; exact setSize) rfl (Lib.setCells_one _)
      have HLA := Pl.hid hla
      have HSA := Pl.hid hsa
      clear hla hsa
      go_wp2_with (first
        | (refine Mm.wp_loadAt _ rfl 132 _ rfl _ _ (by rfl) HLA.out ?_)
        | (refine Mm.wp_storeAt _ _ rfl 132 _ _ rfl _ _ (by rfl) (by rfl) HSA.out ?_))
      (try simp only [Exit.inBlock, Exit.then])
      refine bodyPost_ret (v := .tuple #[.agg (Lib.setCells chars.data.toList), .bool true]) ?_ rfl ⟨rfl, rfl⟩
      rw [results_cell_tmp rfl]
      simp [asAddr, Result.andThen, hld]
    | succ g =>
      have hi : i < chars.size := by omega
      have hiz : (i : Int) < (chars.size : Int) := by omega
      obtain ⟨x, hx⟩ : ∃ x : UInt8, chars[i]'hi = x := ⟨_, rfl⟩
      have hxl : chars.data.toList[i]? = some x := by rw [← hx]; exact Lib.data_getElem? chars i hi
      have hx128 : ¬ ((128 : Int) ≤ (x.toNat : Int)) := by have := HA.out i x hxl; omega
      have hx256 : (x.toNat : Int) < 256 := by have := HA.out i x hxl; omega
      have hcell := Lib.setCells_at (chars.data.toList.take i) x
      have Hx : Aside (chars.data.toList[i]? = some x) := hxl
      clear hxl
      go_wp2
      go_roundg g
      case measure => omega
      case rel => exact ⟨i + 1, by omega, by first | rfl | simp, by rw [List.take_add_one, Hx.out]; simp only [Option.toList]; rw [Lib.setCells_snoc]⟩

set_option maxRecDepth 1000000 in
theorem bcontains_walk (b : Nat) (x : UInt8) (v : Bool) (w : World) (hc : w.cell? ⟨b, x.toNat, none⟩ = some (.bool v)) :
    Calls Tryd.prog 105 #[.pointer (some ⟨b, 0, none⟩), .int .u8 x.toNat] w fun e w' => e = .returned (.bool v) ∧ w' = w := by
  have hx256 : (x.toNat : Int) < 256 := by have := UInt8.toNat_lt x; omega
  go_enter Tryd.func105, Tryd.ntmps105
  go_wp2
  go_ret
  exact ⟨rfl, rfl⟩
theorem bshould_walk (n : Int) (w : World) : Calls Tryd.prog 103 #[.int .i64 n] w fun e w' => e = .returned (.bool (decide (8 < n))) ∧ w = w' := by
  go_enter Tryd.func103, Tryd.ntmps103
  go_wp2
  go_ret
  exact ⟨rfl, rfl⟩

namespace Pl
/-- where CR or LF first stands -/
def hitE (l : List UInt8) (n : Int) : Prop := (noEnd l = true ∧ n = -1) ∨ ∃ i : Nat, n = i ∧ i < l.length ∧ noE l i ∧ isEnd (l.getD i 0) = true
theorem noE_zero (l : List UInt8) : noE l 0 := fun j hj => absurd hj (Nat.not_lt_zero _)
theorem noE.succ {l : List UInt8} {i : Nat} (h : noE l i) (hx : isEnd (l.getD i 0) = false) : noE l (i + 1) := fun j hj => by
  rcases Nat.lt_or_ge j i with hlt | hge
  · exact h j hlt
  · rw [show j = i by omega]; exact hx
end Pl

set_option maxHeartbeats 8000000 in
set_option maxRecDepth 1000000 in
/-- more than eight bytes -/
theorem bindexAny_long (g o n c : Nat) (l : List UInt8) (w : World) (hn : n = l.length) (h8 : 8 < n) (hm : Mm.BytesAt w g o l) (hl : n ≤ 9223372036854775807) (hg : g < w.heap.size) :
    Calls Tryd.prog 84 #[.slice (some ⟨g, o, none⟩) n c, .string ⟨#[13, 10]⟩] w fun e w' => (∃ k : Int, e = .returned (.int .i64 k) ∧ Pl.hitE l k) ∧ Below w.heap.size w w' := by
  obtain ⟨cs, hcs⟩ : ∃ cs, cs = Lib.setCells [13, 10] := ⟨_, rfl⟩
  have hM := bmake_walk ⟨#[13, 10]⟩ w (by decide) (by
    intro j b hj
    rcases j with _ | _ | j
    · simp at hj; subst hj; decide
    · simp at hj; subst hj; decide
    · simp at hj)
  have hv116 := (zero_of_info setInfo).1
  have hd : (⟨#[13, 10]⟩ : ByteArray).data.toList = [13, 10] := rfl
  rw [hd, ← hcs] at hM
  have hsz : cs.size = 256 := by rw [hcs]; exact Lib.setCells_size _
  have hone : (cs.all fun x => x.oneCell') = true := by rw [hcs]; exact Lib.setCells_one _
  have hsc : (Instr.storeAt 132 (.pointer (some ⟨w.heap.size + 1, 0, none⟩)) (.agg cs)).run Tryd.prog ((w.alloc (.cells cs 132)).alloc (.cells (Array.replicate 256 (.bool false)) 132)) = .ok () ((w.alloc (.cells cs 132)).alloc (.cells cs 132)) := by
    have := run_storeAt_new (P := Tryd.prog) (w.alloc (.cells cs 132)) 132 (Array.replicate 256 (.bool false)) cs (by rw [hsz]; exact setSize) (by rw [hsz, Array.size_replicate]) hone
    simpa using this
  obtain ⟨w2, hw2⟩ : ∃ w2, w2 = (w.alloc (.cells cs 132)).alloc (.cells cs 132) := ⟨_, rfl⟩
  have HC : Hid (∀ x : UInt8, w2.cell? ⟨w.heap.size + 1, x.toNat, none⟩ = some (.bool (Pl.isEnd x))) := fun x => by
    rw [hw2, World.cell?_alloc_at _ _ _ _ (by simp), hcs, Lib.setCells_at, Pl.con2]
  have HB : Hid (Below w.heap.size w w2) := by rw [hw2]; exact ((Below.refl _ _).alloc (Nat.le_refl _) _).alloc (by simp) _
  have HM : Hid (∀ i, i < n → w2.cell? ⟨g, o + i, none⟩ = some (.int .u8 (l.getD i 0).toNat)) := fun i h => by
    have := (HB.out.cell (p := ⟨g, o + i, none⟩) hg).trans (hm i (by omega))
    exact this
  rw [← hw2] at hsc
  have HSC := Pl.hid hsc
  have HN := Pl.hid hn
  have hn1 : ((n : Int) == 1) = false := beq_eq_false_iff_ne.2 (by omega)
  have h8z : decide ((8 : Int) < (n : Int)) = true := decide_eq_true (by omega)
  clear hm hn hcs hone hw2 hg hsc
  go_enter Tryd.func84, Tryd.ntmps84
  go_wp2_with (first
    | (go_at_call 103; refine (bshould_walk _ _).mono ?_; rintro e w' ⟨rfl, rfl⟩; rw [h8z])
    | (go_at_call 104; refine hM.mono ?_; rintro e w' ⟨rfl, hw⟩; rw [hw])
    | (refine Mm.wp_storeAt _ _ rfl 132 _ _ rfl _ _ (by rfl) (by rfl) HSC.out ?_))
  clear hM
  go_loopw [62] (fun iv wr => ∃ i : Nat, iv = .int .i64 i ∧ i ≤ n ∧ wr = w2 ∧ Hid (Pl.noE l i)) (fun iv _ => n - (RowKit.intOf iv).toNat)
  case atStart => exact ⟨0, rfl, Nat.zero_le _, rfl, Pl.noE_zero l⟩
  case round =>
    obtain ⟨i, rfl, hi, rfl, HNo⟩ := hrel
    rcases Nat.lt_or_ge i n with hlt | hge
    · have hc := HM.out i hlt
      obtain ⟨x, hx⟩ : ∃ x, l.getD i 0 = x := ⟨_, rfl⟩
      rw [hx] at hc
      have HX := Pl.hid hx
      clear hx
      have hcx := HC.out x
      cases hin : Pl.isEnd x <;> rw [hin] at hcx
      · have HIN := Pl.hid hin
        clear hin
        go_wp2_with (go_at_call 105; refine (bcontains_walk _ x _ _ hcx).mono ?_; rintro e w' ⟨rfl, hw⟩; rw [hw])
        go_roundw
        case rel => exact ⟨i + 1, by go_num, hlt, by first | rfl | trivial, HNo.out.succ (by rw [HX.out]; exact HIN.out)⟩
        case measure => simp [RowKit.intOf]; omega
      · have HIN := Pl.hid hin
        clear hin
        go_wp2_with (go_at_call 105; refine (bcontains_walk _ x _ _ hcx).mono ?_; rintro e w' ⟨rfl, hw⟩; rw [hw])
        go_ret
        exact ⟨⟨_, rfl, .inr ⟨i, rfl, by rw [← HN.out]; exact hlt, HNo.out, by rw [HX.out]; exact HIN.out⟩⟩, HB.out⟩
    · obtain rfl : i = n := by omega
      go_wp2_with fail
      go_ret
      exact ⟨⟨_, rfl, .inl ⟨Pl.noE_all HNo.out (by rw [← HN.out]; exact Nat.le_refl _), rfl⟩⟩, HB.out⟩
end Go.Proofs.YtakldjdohgmeiaaDoor
