/- The makers Error, of both sides. Conditions stand in each law. reply's Encode of any reply. Conditions stand in each law. Plain: a command as a reply: an array of bulks. No program in sight. pantryref16's clean; its right where a reply's own fields may not be, and where they may and it has no list. Conditions stand in each law. pantryref16's right of any reply; its depth. Conditions stand in each law. pantryref16's depth of any reply. Conditions stand in each law. Conditions stand in each law. -/
import Derived.Test.YtakldjdohgmeiaaDoorBuReplyMakes12
import Derived.Test.YtakldjdohgmeiaaDoorBuReplyMakes3
import Derived.Test.YtakldjdohgmeiaaDoorBuReplyMakes9
import Derived.Shelf.Strings.Replace
import Derived.Test.YtakldjdohgmeiaaDoorBuReplyMakes11
import Derived.Test.YtakldjdohgmeiaaDoorBuReplyMakes7
namespace Go.Proofs.YtakldjdohgmeiaaDoor
open Go.RowKit
set_option maxRecDepth 20000

theorem extra155 : Builder.Extra Tryd.prog Tryd.lays155_ren where
  sizeBuilder := by kernel_rfl
  liesBuilder := by kernel_rfl
  t5 := Tryd.lays155.t5
  a5 := Tryd.lays155.a5
  z5 := Tryd.lays155.z5
  v5 := Tryd.lays155.v5
  infoByte := by kernel_rfl
  cellsByte := by kernel_rfl
  sizeByte := by kernel_rfl
  neB5 := by decide

theorem replaceAll_walk (s : ByteArray) (c d : UInt8) (w : World) (hX : Mm.MaxI w) (hs : s.size ≤ 100000000) :
    Calls Tryd.prog 51 #[.string s, .string ⟨#[c]⟩, .string ⟨#[d]⟩] w fun e w' => e = .returned (.string ⟨(Lib.replaceAll s.data.toList [c] [d]).toArray⟩) ∧ Below w.heap.size w w' := by
  obtain ⟨m, hm⟩ := hX.here
  refine Any.strings_ReplaceAll Tryd.lays155 extra155 s ⟨#[c]⟩ ⟨#[d]⟩ m w (by omega) hm (Nat.le_refl 1) ?_
  have h : Lib.countB s ⟨#[c]⟩ ≤ s.size + 1 := Lib.count_le s.data.toList [c]
  have e : (⟨#[d]⟩ : ByteArray).size = 1 := rfl
  rw [e]
  omega

namespace Pl
def e1 (c : UInt8) : UInt8 := if isEnd c then 32 else c
def mixV (l : List UInt8) (i j : Nat) : Value := .int .u8 (((if j < i then e1 (l.getD j 0) else l.getD j 0).toNat : Nat) : Int)
theorem mixV_here (l : List UInt8) (i : Nat) : mixV l i i = .int .u8 (((l.getD i 0).toNat : Nat) : Int) := by unfold mixV; rw [if_neg (Nat.lt_irrefl _)]
/-- a row whose first n places are those of the mix -/
def Mix (l : List UInt8) (n i C : Nat) (cur : Array Value) : Prop := cur.size = C ∧ n ≤ C ∧ ∀ j, j < n → cur[j]? = some (mixV l i j)
theorem Mix.same {l : List UInt8} {n i C : Nat} {cur : Array Value} (h : Mix l n i C cur) (hx : isEnd (l.getD i 0) = false) : Mix l n (i + 1) C cur := ⟨h.1, h.2.1, fun j hj => by
  rw [h.2.2 j hj]
  unfold mixV
  by_cases h1 : j = i
  · subst h1
    rw [if_neg (Nat.lt_irrefl _), if_pos (Nat.lt_succ_self _)]
    unfold e1
    rw [if_neg (by rw [hx]; simp)]
  · by_cases h2 : j < i
    · rw [if_pos h2, if_pos (by omega)]
    · rw [if_neg h2, if_neg (by omega)]⟩
theorem Mix.set {l : List UInt8} {n i C : Nat} {cur : Array Value} (h : Mix l n i C cur) (hi : i < n) (hx : isEnd (l.getD i 0) = true) : Mix l n (i + 1) C (cur.setIfInBounds i (.int .u8 32)) := ⟨by rw [Array.size_setIfInBounds]; exact h.1, h.2.1, fun j hj => by
  by_cases h1 : j = i
  · subst h1
    have hs : j < cur.size := by rw [h.1]; have := h.2.1; omega
    rw [Array.getElem?_setIfInBounds_self_of_lt hs]
    unfold mixV
    rw [if_pos (Nat.lt_succ_self _)]
    unfold e1
    rw [if_pos hx]
    rfl
  · rw [Array.getElem?_setIfInBounds_ne (Ne.symm h1), h.2.2 j hj]
    unfold mixV
    by_cases h2 : j < i
    · rw [if_pos h2, if_pos (by omega)]
    · rw [if_neg h2, if_neg (by omega)]⟩
theorem Mix.all {s : ByteArray} {C : Nat} {cur : Array Value} (h : Mix (L s) s.size s.size C cur) : ∀ j, j < (errL (L s)).length → cur[j]? = some (.int .u8 (at_ (errL (L s)) j)) := fun j hj => by
  have hl : (errL (L s)).length = s.size := by unfold errL; rw [List.length_map, L_length]
  have hj' : j < s.size := by omega
  rw [h.2.2 j hj']
  unfold mixV at_ errL e1
  rw [if_pos hj']
  have hj2 : j < (L s).length := by rw [L_length]; exact hj'
  simp only [List.getD_eq_getElem?_getD, List.getElem?_map, List.getElem?_eq_getElem hj2, Option.map_some, Option.getD_some]
end Pl
namespace Mm
open Pl
/-- '[]byte(s)', with the block it lies in -/
theorem wp_tobytesC {ops : Array Oper} {rest : List Oper} {o : Oper} {a : Act} {Q : Exit → Act → World → Prop} (w : World) (hgd : o.guard = none) (x : Operand) (ho : o.op = .convert 9 24 x)
    (s : ByteArray) (hx : a.eval x = .string s)
    (hK : ∀ c cur w', Mix (L s) s.size 0 c cur → w'.heap[w.heap.size]? = some (.cells cur 5 (cur.size, cur.size + 1)) → w'.heap.size = w.heap.size + 1 → Below w.heap.size w w' →
      wpList Tryd.prog ops Q rest (a.put o.dst (.slice (some ⟨w.heap.size, 0, none⟩) s.size c)) w') : wpList Tryd.prog ops Q (o :: rest) a w := by
  refine wpList_plain hgd fun K hK' => ?_
  have hrun := run_bytes_of_string (P := Tryd.prog) w 9 24 5 s Tryd.underlying9 Tryd.underlying24 Tryd.underlying5
  unfold Oper.wp
  simp [execOp, ho, hx, hrun, Result.andThen]
  refine hK' _ _ (hK _ (bytesRow s (grownCap w s.size 0 5)) _ ?_ (heap_alloc_new w.drew _) (by simp) (((Below.refl _ _).drew).alloc (by simp) _))
  refine ⟨?_, grownCap_ge _ _ _ _, fun j hj => ?_⟩
  · have h1 : s.data.size = s.size := rfl
    have h2 := grownCap_ge w s.size 0 5
    unfold bytesRow
    rw [Array.size_append, Array.size_map, Array.size_replicate, h1]
    omega
  · have hj' : j < s.data.size := hj
    rw [bytesRow_at s _ j hj']
    unfold mixV
    rw [if_neg (Nat.not_lt_zero _)]
    have h2 : j < (L s).length := by rw [L_length]; exact hj
    rw [List.getD_eq_getElem?_getD, List.getElem?_eq_getElem h2]
    rfl
theorem frozen_mark {w : World} {p i : Nat} {cs : Array Value} {T : TypeId} (h : w.heap[p]? = some (.cells cs T (cs.size, cs.size + 1))) (hi : i < cs.size) : w.frozen? ⟨p, i, none⟩ = false := by
  simp [World.frozen?, h]
  omega
/-- 'string(b)', at cells that are told -/
theorem wp_strC {ops : Array Oper} {rest : List Oper} {o : Oper} {a : Act} {Q : Exit → Act → World → Prop} (w : World) (hgd : o.guard = none) (x : Operand) (ho : o.op = .convert 24 9 x)
    (g n c : Nat) (l : List UInt8) (h : ∀ j, j < l.length → w.cell? ⟨g, j, none⟩ = some (.int .u8 (at_ l j))) (hx : a.eval x = .slice (some ⟨g, 0, none⟩) n c) (hn : l.length = n) (hK : wpList Tryd.prog ops Q rest (a.put o.dst (.string (B l))) w) : wpList Tryd.prog ops Q (o :: rest) a w := by
  subst hn
  refine wpList_plain hgd fun K hK' => ?_
  have hrun := run_convert_bytes_back w 24 9 5 ⟨g, 0, none⟩ c l Tryd.underlying24 Tryd.underlying5 Tryd.underlying9 (fun j hj => by
    have e : (⟨g, 0, none⟩ : Addr).add j = ⟨g, j, none⟩ := by unfold Addr.add; split <;> simp_all
    rw [e, h j hj]
    simp [at_, List.getD_eq_getElem?_getD, List.getElem?_eq_getElem hj])
  unfold Oper.wp
  simp [execOp, ho, hx, hrun, Result.andThen]
  exact hK' _ _ hK
end Mm

set_option maxHeartbeats 4000000 in
theorem mk_error (s : ByteArray) (w : World) (hX : Mm.MaxI w) (hs : s.size ≤ 100000000) : Calls Tryd.prog 15 #[.string s] w fun e w' => e = .returned (.agg #[.int .i64 2, .string (Pl.errT s), .int .i64 0, .slice none 0 0]) ∧ Below w.heap.size w w' := by
  obtain ⟨w1, hw1⟩ : ∃ w1, w.alloc (.cells #[.int .i64 0, .string ⟨#[]⟩, .int .i64 0, .slice none 0 0] 31) = w1 := ⟨_, rfl⟩
  obtain ⟨r, hr⟩ : ∃ r, w.heap.size = r := ⟨_, rfl⟩
  have HR1 : Hid (w1.heap[r]? = some (.cells #[.int .i64 0, .string ⟨#[]⟩, .int .i64 0, .slice none 0 0] 31 (0, 0))) := by show _ = _; rw [← hw1, ← hr]; exact heap_alloc_new w _
  have HB1 : Hid (Below w.heap.size w w1) := by rw [← hw1]; exact (Below.refl _ _).alloc (Nat.le_refl _) _
  have HX1 := Pl.hid (hX.on HB1.out)
  obtain ⟨s1, hs1⟩ : ∃ s1 : ByteArray, s1 = ⟨(Lib.replaceAll s.data.toList [13] [32]).toArray⟩ := ⟨_, rfl⟩
  have HS1 : Hid (s1.size ≤ 100000000) := by
    show _ ≤ _
    rw [hs1, Pl.replAll 13 32 (by decide)]
    show (List.map _ _).toArray.size ≤ _
    rw [List.size_toArray, List.length_map]
    exact hs
  have HE : Hid ((⟨(Lib.replaceAll s1.data.toList [10] [32]).toArray⟩ : ByteArray) = Pl.errT s) := by
    show _ = _
    rw [hs1]
    exact Pl.errT_data s
  have HC1 := Pl.hid (replaceAll_walk s 13 32 w1 HX1.out hs)
  rw [← hs1] at HC1
  have HRL : Hid (r < w1.heap.size ∧ w.heap.size = r) := ⟨(Array.getElem?_eq_some_iff.1 HR1.out).1, hr⟩
  clear hX hs hs1
  go_enter Tryd.func15, Tryd.ntmps15
  go_wp2_with (first
    | (go_at_call 51; refine HC1.out.mono ?_; rintro e w2 ⟨rfl, hb2⟩; have HB2 := Pl.hid hb2; clear hb2)
    | (go_at_call 51; refine (replaceAll_walk s1 10 32 w2 (HX1.out.on HB2.out) HS1.out).mono ?_; rintro e w3 ⟨rfl, hb3⟩; rw [HE.out]; have HB3 := Pl.hid hb3; clear hb3)
    | (refine Mm.wp_store4 _ rfl _ _ rfl r _ _ _ _ _ _ ((HB3.out.block r (by have := HB2.out.size; have := HRL.out.1; omega)).trans ((HB2.out.block r HRL.out.1).trans HR1.out)) rfl rfl rfl Mm.leaf_one ?_; intro wf hwf hsf hgf; clear hsf; have HWF := Pl.hid hwf; have HGF := Pl.hid hgf; clear hwf hgf))
  refine bodyPost_ret (Mm.res_cell rfl _ wf r _ _ _ _ _ _ rfl HWF.out) rfl ?_
  have hrl := HRL.out
  have b1 := HB1.out
  have b3 : Below w.heap.size w w3 := b1.trans ((HB2.out.trans (HB3.out.mono HB2.out.size)).mono b1.size)
  exact ⟨rfl, b3.grown HGF.out b3.size (fun k hk => by injection hk with hk; omega)⟩

set_option maxHeartbeats 8000000 in
theorem mk_rerror (s : ByteArray) (w : World) (hs : s.size ≤ 100000000) : Calls Tryd.prog 28 #[.string s] w fun e w' => e = .returned (.agg #[.int .i64 2, .string (Pl.errT s), .int .i64 0, .slice none 0 0]) ∧ Below w.heap.size w w' := by
  obtain ⟨w1, hw1⟩ : ∃ w1, w.alloc (.cells #[.int .i64 0, .string ⟨#[]⟩, .int .i64 0, .slice none 0 0] 31) = w1 := ⟨_, rfl⟩
  obtain ⟨r, hr⟩ : ∃ r, w.heap.size = r := ⟨_, rfl⟩
  obtain ⟨g, hg⟩ : ∃ g, w1.heap.size = g := ⟨_, rfl⟩
  have HR1 : Hid (w1.heap[r]? = some (.cells #[.int .i64 0, .string ⟨#[]⟩, .int .i64 0, .slice none 0 0] 31 (0, 0))) := by show _ = _; rw [← hw1, ← hr]; exact heap_alloc_new w _
  have HB1 : Hid (Below w.heap.size w w1) := by rw [← hw1]; exact (Below.refl _ _).alloc (Nat.le_refl _) _
  have HRL : Hid (r < g ∧ w.heap.size = r ∧ w1.heap.size = g) := ⟨by rw [← hg]; exact (Array.getElem?_eq_some_iff.1 HR1.out).1, hr, hg⟩
  go_enter Tryd.func28, Tryd.ntmps28
  go_wp2_with (refine Mm.wp_tobytesC w1 rfl _ (by rfl) s (by rfl) ?_; intro C cur w2 hm2 hh2 hs2 hb2; rw [hg] at hh2; have HM2 := Pl.hid hm2; have HH2 := Pl.hid hh2; have HB2 := Pl.hid hb2; clear hm2 hh2 hs2 hb2)
  have hn : s.size ≤ C := HM2.out.2.1
  have hn8 : s.size ≤ 100000000 := hs
  have HR2 : Hid (w2.heap[r]? = some (.cells #[.int .i64 0, .string ⟨#[]⟩, .int .i64 0, .slice none 0 0] 31 (0, 0))) := (HB2.out.block r (by have := HRL.out; omega)).trans HR1.out
  have HB3 : Hid (Below w.heap.size w w2) := HB1.out.trans (HB2.out.mono HB1.out.size)
  have HGL : Hid (g < w2.heap.size) := (Array.getElem?_eq_some_iff.1 HH2.out).1
  obtain ⟨n, hnn⟩ : ∃ n, n = s.size := ⟨_, rfl⟩
  rw [← hnn] at HM2 hn hn8 ⊢
  have HN := Pl.hid hnn
  clear hnn hw1 hr hg HR1 HB1 HB2 hs
  go_loopw [10] (fun iv wr => ∃ (i : Nat) (cur : Array Value), iv = .int .i64 i ∧ i ≤ n ∧ Hid (wr.heap[g]? = some (.cells cur 5 (cur.size, cur.size + 1))) ∧ Hid (Pl.Mix (Pl.L s) n i C cur) ∧ Hid (wr.heap[r]? = some (.cells #[.int .i64 0, .string ⟨#[]⟩, .int .i64 0, .slice none 0 0] 31 (0, 0))) ∧ Hid (Below w.heap.size w wr)) (fun iv _ => n - (intOf iv).toNat)
  case atStart => exact ⟨0, cur, rfl, Nat.zero_le _, HH2.out, HM2.out, HR2.out, HB3.out⟩
  case round =>
    obtain ⟨i, cu, rfl, hi, HH, HM, HR, HB⟩ := hrel
    rcases Nat.lt_or_ge i n with hlt | hge
    · obtain ⟨x, hx⟩ : ∃ x, (Pl.L s).getD i 0 = x := ⟨_, rfl⟩
      have b1 := Mm.cell_of HH.out (i := i) (v := .int .u8 ((x.toNat : Nat) : Int)) (by rw [HM.out.2.2 i hlt, Pl.mixV_here, hx])
      have HX := Pl.hid hx
      have HFZ : Hid (i < cu.size) := by have := HM.out.1; show _ < _; omega
      have f1 := Mm.frozen_mark HH.out HFZ.out
      clear hx
      cases hend : Pl.isEnd x
      · have HEN : Hid (Pl.Mix (Pl.L s) n (i + 1) C cu) := HM.out.same (by rw [HX.out]; exact hend)
        have hh : x ≠ 13 ∧ x ≠ 10 := by
          unfold Pl.isEnd at hend
          simpa using hend
        have h13 : ((x.toNat : Int) == 13) = false := beq_eq_false_iff_ne.2 (fun e => hh.1 (UInt8.toNat_inj.1 (by show x.toNat = 13; omega)))
        have h10 : ((x.toNat : Int) == 10) = false := beq_eq_false_iff_ne.2 (fun e => hh.2 (UInt8.toNat_inj.1 (by show x.toNat = 10; omega)))
        clear hh hend
        go_wp2_with fail
        exact ⟨⟨i + 1, cu, by go_num, hlt, HH.out, HEN.out, HR.out, HB.out⟩, by simp [intOf]; omega⟩
      · have HEN : Hid (Pl.Mix (Pl.L s) n (i + 1) C (cu.setIfInBounds i (.int .u8 32))) := HM.out.set hlt (by rw [HX.out]; exact hend)
        have HH7 := Mm.heap_set HH.out i (.int .u8 32)
        have HG7 := Pl.hid (Mm.grown_set wr g i (.int .u8 32))
        have hsz : (cu.setIfInBounds i (.int .u8 32)).size = cu.size := Array.size_setIfInBounds ..
        rw [← hsz] at HH7
        have HH8 := Pl.hid HH7
        clear HH7 hsz
        have hh : x = 13 ∨ x = 10 := by
          unfold Pl.isEnd at hend
          simpa using hend
        clear hend
        have HFIN : Hid (∀ w7 : World, wr.grownBy w7 (some g) → w7.heap[r]? = some (.cells #[.int .i64 0, .string ⟨#[]⟩, .int .i64 0, .slice none 0 0] 31 (0, 0)) ∧ Below w.heap.size w w7) := fun w7 hg7 =>
          ⟨(hg7.block r (Array.getElem?_eq_some_iff.1 HR.out).1 (fun e => by injection e with e; have := HRL.out.1; omega)).trans HR.out, HB.out.grown hg7 HB.out.size (fun k hk => by injection hk with hk; have := HRL.out; omega)⟩
        rcases hh with rfl | rfl
        · have h13 : (((13 : UInt8).toNat : Int) == 13) = true := by decide
          go_wp2_with fail
          exact ⟨⟨i + 1, _, by go_num, hlt, HH8.out, HEN.out, (HFIN.out _ HG7.out).1, (HFIN.out _ HG7.out).2⟩, by simp [intOf]; omega⟩
        · have h13 : (((10 : UInt8).toNat : Int) == 13) = false := by decide
          have h10 : (((10 : UInt8).toNat : Int) == 10) = true := by decide
          go_wp2_with fail
          exact ⟨⟨i + 1, _, by go_num, hlt, HH8.out, HEN.out, (HFIN.out _ HG7.out).1, (HFIN.out _ HG7.out).2⟩, by simp [intOf]; omega⟩
    · obtain rfl : i = n := by omega
      have HALL : Hid (∀ j, j < (Pl.errL (Pl.L s)).length → wr.cell? ⟨g, j, none⟩ = some (.int .u8 (Pl.at_ (Pl.errL (Pl.L s)) j))) := fun j hj => Mm.cell_of HH.out (Pl.Mix.all (C := C) (by rw [← HN.out]; exact HM.out) j hj)
      have HLE : Hid ((Pl.errL (Pl.L s)).length = i) := by show _ = _; unfold Pl.errL; rw [List.length_map, Pl.L_length]; exact HN.out.symm
      go_wp2_with (first
        | (refine Mm.wp_strC wr rfl _ (by rfl) g i C (Pl.errL (Pl.L s)) HALL.out (by rfl) HLE.out ?_)
        | (refine Mm.wp_store4 _ rfl _ _ rfl r _ _ _ _ _ _ HR.out rfl rfl rfl Mm.leaf_one ?_; intro wf hwf hsf hgf; clear hsf; have HWF := Pl.hid hwf; have HGF := Pl.hid hgf; clear hwf hgf))
      (try simp only [Exit.inBlock, Exit.then])
      refine bodyPost_ret (Mm.res_cell rfl _ wf r _ _ _ _ _ _ rfl HWF.out) rfl ?_
      have hrl := HRL.out
      exact ⟨rfl, HB.out.grown HGF.out HB.out.size (fun k hk => by injection hk with hk; omega)⟩
end Go.Proofs.YtakldjdohgmeiaaDoor

namespace Go.Proofs.YtakldjdohgmeiaaDoor
open Go.RowKit
set_option maxRecDepth 20000

namespace RT
open Pl
/-- how Encode goes -/
def code (t : RT) : Int := if t.ok = false then 160 else if 8 < t.depth then 161 else if 16777216 < t.enc.length then 2 else 0
/-- and what it writes -/
def out (t : RT) : List UInt8 := if t.ok = false then [] else if 8 < t.depth then [] else if 16777216 < t.enc.length then [] else t.enc
theorem co_bad {t : RT} (h : t.ok = false) : code t = 160 ∧ out t = [] := by simp [code, out, h]
theorem co_deep {t : RT} (h : t.ok = true) (h2 : 8 < t.depth) : code t = 161 ∧ out t = [] := by simp [code, out, h, h2]
theorem co_long {t : RT} (h : t.ok = true) (h2 : ¬ 8 < t.depth) (h3 : 16777216 < t.enc.length) : code t = 2 ∧ out t = [] := by simp only [code, out, h, h2, h3, if_true, if_false]; simp
theorem co_good {t : RT} (h : t.ok = true) (h2 : ¬ 8 < t.depth) (h3 : ¬ 16777216 < t.enc.length) : code t = 0 ∧ out t = t.enc := by simp only [code, out, h, h2, h3, if_true, if_false]; simp
end RT

set_option maxHeartbeats 4000000 in
theorem encode_walk (W : World) (hT : Mm.Tab W) (t : RT) (hin : t.In) (hsz : t.sz ≤ 1073741824) (c0 c1 c2 c3 : Value) (hX : Mm.RepX W t [c0, c1, c2, c3]) (w : World) (hW : Below W.heap.size W w) :
    Calls Tryd.prog 12 #[.agg #[c0, c1, c2, c3]] w fun e w' => ∃ v', e = .returned (.tuple #[v', .int .i64 t.code]) ∧ Mm.OwnB w' w.heap.size v' t.out ∧ Below w.heap.size w w' := by
  obtain ⟨p, hp⟩ : ∃ p, p = w.heap.size := ⟨_, rfl⟩
  obtain ⟨w0, hw0⟩ : ∃ w0, w0 = w.alloc (.cells #[c0, c1, c2, c3] 31) := ⟨_, rfl⟩
  have HB0 : Hid (Below w.heap.size w w0) := by rw [hw0]; exact (Below.refl _ _).alloc (Nat.le_refl _) _
  have HK : Hid (∀ V, Below w0.heap.size w0 V → ∀ i u, (#[c0, c1, c2, c3] : Array Value)[i]? = some u → V.cell? ⟨p, i, none⟩ = some u) := fun V hV i u hu => by
    have h0 : w0.cell? ⟨p, i, none⟩ = some u := by rw [hw0, hp, World.cell?_alloc_mark]; exact hu
    exact (hV.cell (p := ⟨p, i, none⟩) (World.block_lt_of_cell? _ _ h0)).trans h0
  have HW0eq := Pl.hid hw0
  have HPeq := Pl.hid hp
  have HWW : Hid (∀ V, Below w0.heap.size w0 V → Below W.heap.size W V) := fun V hV => hW.trans ((HB0.out.trans (hV.mono HB0.out.size)).mono hW.size)
  have HX := Pl.hid hX
  have HT := Pl.hid hT
  have HIN := Pl.hid hin
  have HSZ := Pl.hid hsz
  have HEL := Pl.hid (RT.enc_le t hin hsz)
  have hk := HK.out w0 (Below.refl _ _)
  have k0 := hk 0 _ rfl
  have k1 := hk 1 _ rfl
  have k2 := hk 2 _ rfl
  have k3 := hk 3 _ rfl
  have hone := HX.out.one
  have o0 := hone c0 (by simp)
  have o1 := hone c1 (by simp)
  have o2 := hone c2 (by simp)
  have o3 := hone c3 (by simp)
  clear hw0 hp hk hT hX hin hsz hW
  go_enter Tryd.func12, Tryd.ntmps12
  go_wp2_with fail
  rw [← HW0eq.out]
  refine (looked_walk W t HSZ.out c0 c1 c2 c3 HX.out w0 (HWW.out _ (Below.refl _ _))).mono ?_
  rintro e w1 ⟨rfl, hb1⟩
  have HB1 := Pl.hid hb1
  rw [← HPeq.out]
  clear hb1 k0 k1 k2 k3
  have hk := HK.out w1 HB1.out
  have k0 := hk 0 _ rfl
  have k1 := hk 1 _ rfl
  have k2 := hk 2 _ rfl
  have k3 := hk 3 _ rfl
  clear hk
  cases hok : t.ok
  · have HC := Pl.hid (RT.co_bad hok)
    clear hok
    go_wp2_with fail
    go_ret2
    rw [HC.out.1, HC.out.2]
    exact ⟨_, rfl, Mm.ownB_nil _ _, HB0.out.trans (HB1.out.mono HB0.out.size)⟩
  · rw [RT.lookD_ok hok]
    obtain ⟨D, hD⟩ : ∃ D, D = t.depth := ⟨_, rfl⟩
    rw [← hD]
    by_cases hdd : 8 < D
    · have HC := Pl.hid (RT.co_deep hok (by rw [← hD]; exact hdd))
      clear hok hD
      go_wp2_with fail
      go_ret2
      rw [HC.out.1, HC.out.2]
      exact ⟨_, rfl, Mm.ownB_nil _ _, HB0.out.trans (HB1.out.mono HB0.out.size)⟩
    · have HOK := Pl.hid hok
      have HD := Pl.hid hD
      clear hok hD
      go_wp2_with fail
      refine (size_walk W HT.out t HOK.out HIN.out HSZ.out c0 c1 c2 c3 HX.out w1 (HWW.out _ HB1.out)).mono ?_
      rintro e w2 ⟨rfl, hb2⟩
      have HB2 := Pl.hid (HB1.out.trans (hb2.mono HB1.out.size))
      clear hb2 k0 k1 k2 k3
      have hk := HK.out w2 HB2.out
      have k0 := hk 0 _ rfl
      have k1 := hk 1 _ rfl
      have k2 := hk 2 _ rfl
      have k3 := hk 3 _ rfl
      clear hk
      obtain ⟨N, hN⟩ : ∃ N, N = t.enc.length := ⟨_, rfl⟩
      rw [← hN]
      by_cases hnn : 16777216 < N
      · have HC := Pl.hid (RT.co_long HOK.out (by rw [← HD.out]; exact hdd) (by rw [← hN]; exact hnn))
        clear hN
        go_wp2_with fail
        go_ret2
        rw [HC.out.1, HC.out.2]
        exact ⟨_, rfl, Mm.ownB_nil _ _, HB0.out.trans (HB2.out.mono HB0.out.size)⟩
      · have HC := Pl.hid (RT.co_good HOK.out (by rw [← HD.out]; exact hdd) (by rw [← hN]; exact hnn))
        have HN := Pl.hid hN
        clear hN
        go_wp2_with fail
        refine (lay_walk W HT.out t HOK.out HIN.out HSZ.out c0 c1 c2 c3 HX.out w2.heap.size (.slice none 0 0) [] w2 (HWW.out _ HB2.out) (Below.size (HWW.out _ HB2.out)) (Nat.le_refl _) (Mm.ownB_nil _ _) (by have := HN.out; simp only [List.length_nil]; omega)).mono ?_
        rintro e w3 ⟨v3, rfl, ho3, hb3, _⟩
        have HO3 := Pl.hid ho3
        have HB3 := Pl.hid hb3
        clear ho3 hb3 k0 k1 k2 k3
        go_wp2_with fail
        go_ret2
        have h2 : w.heap.size ≤ w2.heap.size := Nat.le_trans HB0.out.size HB2.out.size
        rw [HC.out.1, HC.out.2]
        have ho := HO3.out
        rw [List.nil_append] at ho
        exact ⟨v3, rfl, ho.base0 h2, (HB0.out.trans (HB2.out.mono HB0.out.size)).trans (HB3.out.mono h2)⟩
end Go.Proofs.YtakldjdohgmeiaaDoor

namespace Go.Proofs.YtakldjdohgmeiaaDoor
set_option maxRecDepth 20000
namespace Pl
theorem dig_le (n : Nat) : (Lib.decDigits n).length ≤ n + 1 := by
  induction n using Nat.strongRecOn with
  | _ n ih =>
    rw [Lib.decDigits]
    split
    · simp
    · have := ih (n / 10) (by omega)
      simp only [List.length_append, List.length_cons, List.length_nil]
      omega
theorem bulkE_le (s : List UInt8) : (bulkE s).length ≤ 6 * (s.length + 1) := by
  have := dig_le s.length
  unfold bulkE crlf
  simp only [List.length_append, List.length_cons, List.length_nil]
  omega
theorem flat_le6 : ∀ ws : List (List UInt8), (ws.flatMap bulkE).length ≤ 6 * (ws.length + (ws.map List.length).sum)
  | [] => by simp
  | s :: ws => by
    have h1 := flat_le6 ws
    have h2 := bulkE_le s
    simp only [List.flatMap_cons, List.length_append, List.length_cons, List.map_cons, List.sum_cons]
    omega
theorem reqE_le (ws : List (List UInt8)) (h : ws.length + (ws.map List.length).sum ≤ 1048576) : (reqE ws).length ≤ 16777216 := by
  have h1 := flat_le6 ws
  have h2 := dec_len ws.length (by omega)
  unfold reqE crlf
  simp only [List.length_append, List.length_cons, List.length_nil]
  omega
theorem encL_bulks : ∀ ws : List (List UInt8), RT.encL (ws.map bulkT) = ws.flatMap bulkE
  | [] => by simp [RT.encL]
  | s :: ws => by
    rw [List.map_cons, List.flatMap_cons, ← encL_bulks ws]
    unfold bulkT
    simp [RT.encL, RT.enc, RT.encH, L_B]
theorem okL_bulks (ws : List (List UInt8)) : RT.okL (ws.map bulkT) = true := by
  rw [RT.okL_iff]
  intro t ht
  obtain ⟨s, _, rfl⟩ := List.mem_map.1 ht
  simp [bulkT, RT.ok, RT.okL, RT.okHead]
theorem depthL_bulks : ∀ ws : List (List UInt8), RT.depthL (ws.map bulkT) = 0
  | [] => by simp [RT.depthL]
  | s :: ws => by
    rw [List.map_cons, RT.depthL, depthL_bulks ws]
    simp [bulkT, RT.depth]
theorem szL_bulks : ∀ ws : List (List UInt8), RT.szL (ws.map bulkT) = (ws.map List.length).sum + 25 * ws.length
  | [] => by simp [RT.szL]
  | s :: ws => by
    rw [List.map_cons, RT.szL, szL_bulks ws]
    simp only [bulkT, RT.sz_mk, B_size, RT.szL, List.map_cons, List.sum_cons, List.length_cons]
    omega
/-- a command's tree -/
theorem reqT_ok (ws : List (List UInt8)) (h : ws.length + (ws.map List.length).sum ≤ 1048576) :
    (reqT ws).ok = true ∧ (reqT ws).In ∧ (reqT ws).depth = 1 ∧ (reqT ws).enc = reqE ws ∧ (reqT ws).sz ≤ 1073741824 ∧ (reqT ws).code = 0 ∧ (reqT ws).out = reqE ws := by
  have h0 : In64 0 := by unfold In64; omega
  have hno : ∀ t' : RT, t' ∈ ([] : List RT) → RT.In t' := fun t' ht' => by cases ht'
  have hok : (reqT ws).ok = true := by
    unfold reqT
    rw [RT.ok_mk, okL_bulks]
    have e0 : (⟨#[]⟩ : ByteArray).size = 0 := rfl
    simp [RT.okHead, e0]
  have hd : (reqT ws).depth = 1 := by unfold reqT; rw [RT.depth, if_pos rfl, depthL_bulks]
  have he : (reqT ws).enc = reqE ws := by
    unfold reqT reqE
    rw [RT.enc, encL_bulks, List.length_map]
    simp [RT.encH]
  obtain ⟨c1, c2⟩ := RT.co_good hok (by omega) (by rw [he]; have := reqE_le ws h; omega)
  refine ⟨hok, .mk _ _ _ _ h0 fun t ht => ?_, hd, he, ?_, c1, c2.trans he⟩
  · obtain ⟨s, _, rfl⟩ := List.mem_map.1 ht
    exact .mk _ _ _ _ h0 hno
  · unfold reqT
    rw [RT.sz_mk, szL_bulks]
    have e0 : (⟨#[]⟩ : ByteArray).size = 0 := rfl
    omega
end Pl
end Go.Proofs.YtakldjdohgmeiaaDoor

namespace Go.Proofs.YtakldjdohgmeiaaDoor
open Go.RowKit
set_option maxRecDepth 20000

set_option maxHeartbeats 4000000 in
theorem clean_walk (s : ByteArray) (hs : s.size ≤ 1099511627776) (w : World) :
    Calls Tryd.prog 68 #[.string s] w fun e w' => e = .returned (.bool (Pl.noEnd (Pl.L s))) ∧ w' = w := by
  go_enter Tryd.func68, Tryd.ntmps68
  go_wp2_with fail
  go_loop [6] (fun iv => ∃ i : Nat, iv = .int .i64 i ∧ i ≤ s.size ∧ Hid (Pl.noE (Pl.L s) i)) (fun iv => s.size - (intOf iv).toNat)
  case atStart => exact ⟨0, rfl, Nat.zero_le _, fun j hj => absurd hj (Nat.not_lt_zero _)⟩
  case round =>
    obtain ⟨i, rfl, hi, HN⟩ := hrel
    rcases Nat.lt_or_ge i s.size with hlt | hge
    · obtain ⟨x, hx⟩ : ∃ x, s[i]'hlt = x := ⟨_, rfl⟩
      have HLG : Hid ((Pl.L s).getD i 0 = x) := by show _ = _; rw [← hx]; exact (Pl.L_get s i hlt).symm
      by_cases h13 : x = 13
      · subst h13
        have hx' : ((s[i]'hlt).toNat : Int) = 13 := by rw [hx]; rfl
        have HF := Pl.hid (Pl.noE_not (l := Pl.L s) (i := i) (by rw [Pl.L_length]; exact hlt) (by rw [HLG.out]; rfl))
        clear hx
        go_wp2_with fail
        go_ret
        rw [HF.out]
        exact ⟨rfl, rfl⟩
      · have h13' : ((x.toNat : Int) == 13) = false := beq_eq_false_iff_ne.2 (fun e => h13 (UInt8.toNat_inj.1 (by show x.toNat = 13; omega)))
        by_cases h10 : x = 10
        · subst h10
          have hx' : ((s[i]'hlt).toNat : Int) = 10 := by rw [hx]; rfl
          have HF := Pl.hid (Pl.noE_not (l := Pl.L s) (i := i) (by rw [Pl.L_length]; exact hlt) (by rw [HLG.out]; rfl))
          clear hx
          go_wp2_with fail
          go_ret
          rw [HF.out]
          exact ⟨rfl, rfl⟩
        · have h10' : ((x.toNat : Int) == 10) = false := beq_eq_false_iff_ne.2 (fun e => h10 (UInt8.toNat_inj.1 (by show x.toNat = 10; omega)))
          have hE : Hid (Pl.isEnd x = false) := by show _ = _; unfold Pl.isEnd; simp [h13, h10]
          rw [← hx] at h13' h10'
          clear hx h13 h10
          go_wp2_with fail
          refine ⟨⟨i + 1, by go_num, hlt, fun j hj => ?_⟩, by simp [intOf]; omega⟩
          rcases Nat.lt_or_ge j i with h | h
          · exact HN.out j h
          · rw [show j = i by omega, HLG.out]; exact hE.out
    · have HF := Pl.hid (Pl.noE_all HN.out (by rw [Pl.L_length]; exact hge))
      go_wp2_with fail
      go_ret
      rw [HF.out]
      exact ⟨rfl, rfl⟩

set_option maxHeartbeats 4000000 in
theorem right_1_vnv (s : ByteArray) (n : Int) (la : Option Addr) (ln lc : Nat) (w : World) (hn : (n != 0) = true) :
    Calls Tryd.prog 53 #[.agg #[.int .i64 1, .string s, .int .i64 n, .slice la ln lc]] w fun e w' => e = .returned (.bool false) ∧ Below w.heap.size w w' := by
  have hc : ∀ i u, (#[.int .i64 1, .string s, .int .i64 n, .slice la ln lc] : Array Value)[i]? = some u → (w.alloc (.cells #[.int .i64 1, .string s, .int .i64 n, .slice la ln lc] 31)).cell? ⟨w.heap.size, i, none⟩ = some u := fun i u h => by rw [World.cell?_alloc_mark]; exact h
  have e0 := hc 0 _ rfl
  have e1 := hc 1 _ rfl
  have e2 := hc 2 _ rfl
  have e3 := hc 3 _ rfl
  have HB := Pl.hid ((Below.refl w.heap.size w).alloc (Nat.le_refl _) (.cells #[.int .i64 1, .string s, .int .i64 n, .slice la ln lc] 31))
  clear hc
  go_enter Tryd.func53, Tryd.ntmps53
  go_wp2_with fail
  go_ret
  exact ⟨rfl, HB.out⟩
set_option maxHeartbeats 4000000 in
theorem right_1_vzn (s : ByteArray) (n : Int) (la : Option Addr) (ln lc : Nat) (w : World) (hn : n = 0) (hl : 0 < ln) :
    Calls Tryd.prog 53 #[.agg #[.int .i64 1, .string s, .int .i64 n, .slice la ln lc]] w fun e w' => e = .returned (.bool false) ∧ Below w.heap.size w w' := by
  subst hn
  have hc : ∀ i u, (#[.int .i64 1, .string s, .int .i64 0, .slice la ln lc] : Array Value)[i]? = some u → (w.alloc (.cells #[.int .i64 1, .string s, .int .i64 0, .slice la ln lc] 31)).cell? ⟨w.heap.size, i, none⟩ = some u := fun i u h => by rw [World.cell?_alloc_mark]; exact h
  have e0 := hc 0 _ rfl
  have e1 := hc 1 _ rfl
  have e2 := hc 2 _ rfl
  have e3 := hc 3 _ rfl
  have HB := Pl.hid ((Below.refl w.heap.size w).alloc (Nat.le_refl _) (.cells #[.int .i64 1, .string s, .int .i64 0, .slice la ln lc] 31))
  clear hc
  have hl2 : (0 : Int) < (ln : Int) := by omega
  go_enter Tryd.func53, Tryd.ntmps53
  go_wp2_with fail
  go_ret
  exact ⟨rfl, HB.out⟩
set_option maxHeartbeats 4000000 in
theorem right_1_fzz (s : ByteArray) (n : Int) (la : Option Addr) (ln lc : Nat) (w : World) (hz : s.size ≤ 1099511627776) (hs : Pl.noEnd (Pl.L s) = false) (hn : n = 0) (hl : ln = 0) :
    Calls Tryd.prog 53 #[.agg #[.int .i64 1, .string s, .int .i64 n, .slice la ln lc]] w fun e w' => e = .returned (.bool false) ∧ Below w.heap.size w w' := by
  subst hn
  subst hl
  have hc : ∀ i u, (#[.int .i64 1, .string s, .int .i64 0, .slice la 0 lc] : Array Value)[i]? = some u → (w.alloc (.cells #[.int .i64 1, .string s, .int .i64 0, .slice la 0 lc] 31)).cell? ⟨w.heap.size, i, none⟩ = some u := fun i u h => by rw [World.cell?_alloc_mark]; exact h
  have e0 := hc 0 _ rfl
  have e1 := hc 1 _ rfl
  have e2 := hc 2 _ rfl
  have e3 := hc 3 _ rfl
  have HB := Pl.hid ((Below.refl w.heap.size w).alloc (Nat.le_refl _) (.cells #[.int .i64 1, .string s, .int .i64 0, .slice la 0 lc] 31))
  clear hc
  go_enter Tryd.func53, Tryd.ntmps53
  go_wp2_with (go_at_call 68; refine (clean_walk s hz _).mono ?_; rintro e w2 ⟨rfl, rfl⟩; rw [hs])
  go_ret
  exact ⟨rfl, HB.out⟩
set_option maxHeartbeats 4000000 in
theorem right_1_tzz (s : ByteArray) (n : Int) (la : Option Addr) (ln lc : Nat) (w : World) (hz : s.size ≤ 1099511627776) (hs : Pl.noEnd (Pl.L s) = true) (hn : n = 0) (hl : ln = 0) :
    Calls Tryd.prog 53 #[.agg #[.int .i64 1, .string s, .int .i64 n, .slice la ln lc]] w fun e w' => e = .returned (.bool true) ∧ Below w.heap.size w w' := by
  subst hn
  subst hl
  have hc : ∀ i u, (#[.int .i64 1, .string s, .int .i64 0, .slice la 0 lc] : Array Value)[i]? = some u → (w.alloc (.cells #[.int .i64 1, .string s, .int .i64 0, .slice la 0 lc] 31)).cell? ⟨w.heap.size, i, none⟩ = some u := fun i u h => by rw [World.cell?_alloc_mark]; exact h
  have e0 := hc 0 _ rfl
  have e1 := hc 1 _ rfl
  have e2 := hc 2 _ rfl
  have e3 := hc 3 _ rfl
  have HB := Pl.hid ((Below.refl w.heap.size w).alloc (Nat.le_refl _) (.cells #[.int .i64 1, .string s, .int .i64 0, .slice la 0 lc] 31))
  clear hc
  go_enter Tryd.func53, Tryd.ntmps53
  go_wp2_with (go_at_call 68; refine (clean_walk s hz _).mono ?_; rintro e w2 ⟨rfl, rfl⟩; rw [hs])
  go_loop [69] (fun iv => iv = .int .i64 0) (fun _ => 0)
  case atStart => rfl
  case round =>
    subst hrel
    go_wp2_with fail
    go_ret
    exact ⟨rfl, HB.out⟩
set_option maxHeartbeats 4000000 in
theorem right_2_vnv (s : ByteArray) (n : Int) (la : Option Addr) (ln lc : Nat) (w : World) (hn : (n != 0) = true) :
    Calls Tryd.prog 53 #[.agg #[.int .i64 2, .string s, .int .i64 n, .slice la ln lc]] w fun e w' => e = .returned (.bool false) ∧ Below w.heap.size w w' := by
  have hc : ∀ i u, (#[.int .i64 2, .string s, .int .i64 n, .slice la ln lc] : Array Value)[i]? = some u → (w.alloc (.cells #[.int .i64 2, .string s, .int .i64 n, .slice la ln lc] 31)).cell? ⟨w.heap.size, i, none⟩ = some u := fun i u h => by rw [World.cell?_alloc_mark]; exact h
  have e0 := hc 0 _ rfl
  have e1 := hc 1 _ rfl
  have e2 := hc 2 _ rfl
  have e3 := hc 3 _ rfl
  have HB := Pl.hid ((Below.refl w.heap.size w).alloc (Nat.le_refl _) (.cells #[.int .i64 2, .string s, .int .i64 n, .slice la ln lc] 31))
  clear hc
  go_enter Tryd.func53, Tryd.ntmps53
  go_wp2_with fail
  go_ret
  exact ⟨rfl, HB.out⟩
set_option maxHeartbeats 4000000 in
theorem right_2_vzn (s : ByteArray) (n : Int) (la : Option Addr) (ln lc : Nat) (w : World) (hn : n = 0) (hl : 0 < ln) :
    Calls Tryd.prog 53 #[.agg #[.int .i64 2, .string s, .int .i64 n, .slice la ln lc]] w fun e w' => e = .returned (.bool false) ∧ Below w.heap.size w w' := by
  subst hn
  have hc : ∀ i u, (#[.int .i64 2, .string s, .int .i64 0, .slice la ln lc] : Array Value)[i]? = some u → (w.alloc (.cells #[.int .i64 2, .string s, .int .i64 0, .slice la ln lc] 31)).cell? ⟨w.heap.size, i, none⟩ = some u := fun i u h => by rw [World.cell?_alloc_mark]; exact h
  have e0 := hc 0 _ rfl
  have e1 := hc 1 _ rfl
  have e2 := hc 2 _ rfl
  have e3 := hc 3 _ rfl
  have HB := Pl.hid ((Below.refl w.heap.size w).alloc (Nat.le_refl _) (.cells #[.int .i64 2, .string s, .int .i64 0, .slice la ln lc] 31))
  clear hc
  have hl2 : (0 : Int) < (ln : Int) := by omega
  go_enter Tryd.func53, Tryd.ntmps53
  go_wp2_with fail
  go_ret
  exact ⟨rfl, HB.out⟩
set_option maxHeartbeats 4000000 in
theorem right_2_fzz (s : ByteArray) (n : Int) (la : Option Addr) (ln lc : Nat) (w : World) (hz : s.size ≤ 1099511627776) (hs : Pl.noEnd (Pl.L s) = false) (hn : n = 0) (hl : ln = 0) :
    Calls Tryd.prog 53 #[.agg #[.int .i64 2, .string s, .int .i64 n, .slice la ln lc]] w fun e w' => e = .returned (.bool false) ∧ Below w.heap.size w w' := by
  subst hn
  subst hl
  have hc : ∀ i u, (#[.int .i64 2, .string s, .int .i64 0, .slice la 0 lc] : Array Value)[i]? = some u → (w.alloc (.cells #[.int .i64 2, .string s, .int .i64 0, .slice la 0 lc] 31)).cell? ⟨w.heap.size, i, none⟩ = some u := fun i u h => by rw [World.cell?_alloc_mark]; exact h
  have e0 := hc 0 _ rfl
  have e1 := hc 1 _ rfl
  have e2 := hc 2 _ rfl
  have e3 := hc 3 _ rfl
  have HB := Pl.hid ((Below.refl w.heap.size w).alloc (Nat.le_refl _) (.cells #[.int .i64 2, .string s, .int .i64 0, .slice la 0 lc] 31))
  clear hc
  go_enter Tryd.func53, Tryd.ntmps53
  go_wp2_with (go_at_call 68; refine (clean_walk s hz _).mono ?_; rintro e w2 ⟨rfl, rfl⟩; rw [hs])
  go_ret
  exact ⟨rfl, HB.out⟩
set_option maxHeartbeats 4000000 in
theorem right_2_tzz (s : ByteArray) (n : Int) (la : Option Addr) (ln lc : Nat) (w : World) (hz : s.size ≤ 1099511627776) (hs : Pl.noEnd (Pl.L s) = true) (hn : n = 0) (hl : ln = 0) :
    Calls Tryd.prog 53 #[.agg #[.int .i64 2, .string s, .int .i64 n, .slice la ln lc]] w fun e w' => e = .returned (.bool true) ∧ Below w.heap.size w w' := by
  subst hn
  subst hl
  have hc : ∀ i u, (#[.int .i64 2, .string s, .int .i64 0, .slice la 0 lc] : Array Value)[i]? = some u → (w.alloc (.cells #[.int .i64 2, .string s, .int .i64 0, .slice la 0 lc] 31)).cell? ⟨w.heap.size, i, none⟩ = some u := fun i u h => by rw [World.cell?_alloc_mark]; exact h
  have e0 := hc 0 _ rfl
  have e1 := hc 1 _ rfl
  have e2 := hc 2 _ rfl
  have e3 := hc 3 _ rfl
  have HB := Pl.hid ((Below.refl w.heap.size w).alloc (Nat.le_refl _) (.cells #[.int .i64 2, .string s, .int .i64 0, .slice la 0 lc] 31))
  clear hc
  go_enter Tryd.func53, Tryd.ntmps53
  go_wp2_with (go_at_call 68; refine (clean_walk s hz _).mono ?_; rintro e w2 ⟨rfl, rfl⟩; rw [hs])
  go_loop [69] (fun iv => iv = .int .i64 0) (fun _ => 0)
  case atStart => rfl
  case round =>
    subst hrel
    go_wp2_with fail
    go_ret
    exact ⟨rfl, HB.out⟩
set_option maxHeartbeats 4000000 in
theorem right_3_nvv (s : ByteArray) (n : Int) (la : Option Addr) (ln lc : Nat) (w : World) (hs : s.toList.isEmpty = false) :
    Calls Tryd.prog 53 #[.agg #[.int .i64 3, .string s, .int .i64 n, .slice la ln lc]] w fun e w' => e = .returned (.bool false) ∧ Below w.heap.size w w' := by
  have hc : ∀ i u, (#[.int .i64 3, .string s, .int .i64 n, .slice la ln lc] : Array Value)[i]? = some u → (w.alloc (.cells #[.int .i64 3, .string s, .int .i64 n, .slice la ln lc] 31)).cell? ⟨w.heap.size, i, none⟩ = some u := fun i u h => by rw [World.cell?_alloc_mark]; exact h
  have e0 := hc 0 _ rfl
  have e1 := hc 1 _ rfl
  have e2 := hc 2 _ rfl
  have e3 := hc 3 _ rfl
  have HB := Pl.hid ((Below.refl w.heap.size w).alloc (Nat.le_refl _) (.cells #[.int .i64 3, .string s, .int .i64 n, .slice la ln lc] 31))
  clear hc
  go_enter Tryd.func53, Tryd.ntmps53
  go_wp2_with fail
  go_ret
  exact ⟨rfl, HB.out⟩
set_option maxHeartbeats 4000000 in
theorem right_3_evn (s : ByteArray) (n : Int) (la : Option Addr) (ln lc : Nat) (w : World) (hs : s = ⟨#[]⟩) (hl : 0 < ln) :
    Calls Tryd.prog 53 #[.agg #[.int .i64 3, .string s, .int .i64 n, .slice la ln lc]] w fun e w' => e = .returned (.bool false) ∧ Below w.heap.size w w' := by
  subst hs
  have hc : ∀ i u, (#[.int .i64 3, .string ⟨#[]⟩, .int .i64 n, .slice la ln lc] : Array Value)[i]? = some u → (w.alloc (.cells #[.int .i64 3, .string ⟨#[]⟩, .int .i64 n, .slice la ln lc] 31)).cell? ⟨w.heap.size, i, none⟩ = some u := fun i u h => by rw [World.cell?_alloc_mark]; exact h
  have e0 := hc 0 _ rfl
  have e1 := hc 1 _ rfl
  have e2 := hc 2 _ rfl
  have e3 := hc 3 _ rfl
  have HB := Pl.hid ((Below.refl w.heap.size w).alloc (Nat.le_refl _) (.cells #[.int .i64 3, .string ⟨#[]⟩, .int .i64 n, .slice la ln lc] 31))
  clear hc
  have hl2 : (0 : Int) < (ln : Int) := by omega
  go_enter Tryd.func53, Tryd.ntmps53
  go_wp2_with fail
  go_ret
  exact ⟨rfl, HB.out⟩
set_option maxHeartbeats 4000000 in
theorem right_3_evz (s : ByteArray) (n : Int) (la : Option Addr) (ln lc : Nat) (w : World) (hs : s = ⟨#[]⟩) (hl : ln = 0) :
    Calls Tryd.prog 53 #[.agg #[.int .i64 3, .string s, .int .i64 n, .slice la ln lc]] w fun e w' => e = .returned (.bool true) ∧ Below w.heap.size w w' := by
  subst hs
  subst hl
  have hc : ∀ i u, (#[.int .i64 3, .string ⟨#[]⟩, .int .i64 n, .slice la 0 lc] : Array Value)[i]? = some u → (w.alloc (.cells #[.int .i64 3, .string ⟨#[]⟩, .int .i64 n, .slice la 0 lc] 31)).cell? ⟨w.heap.size, i, none⟩ = some u := fun i u h => by rw [World.cell?_alloc_mark]; exact h
  have e0 := hc 0 _ rfl
  have e1 := hc 1 _ rfl
  have e2 := hc 2 _ rfl
  have e3 := hc 3 _ rfl
  have HB := Pl.hid ((Below.refl w.heap.size w).alloc (Nat.le_refl _) (.cells #[.int .i64 3, .string ⟨#[]⟩, .int .i64 n, .slice la 0 lc] 31))
  clear hc
  go_enter Tryd.func53, Tryd.ntmps53
  go_wp2_with fail
  go_loop [69] (fun iv => iv = .int .i64 0) (fun _ => 0)
  case atStart => rfl
  case round =>
    subst hrel
    go_wp2_with fail
    go_ret
    exact ⟨rfl, HB.out⟩
set_option maxHeartbeats 4000000 in
theorem right_4_vnv (s : ByteArray) (n : Int) (la : Option Addr) (ln lc : Nat) (w : World) (hn : (n != 0) = true) :
    Calls Tryd.prog 53 #[.agg #[.int .i64 4, .string s, .int .i64 n, .slice la ln lc]] w fun e w' => e = .returned (.bool false) ∧ Below w.heap.size w w' := by
  have hc : ∀ i u, (#[.int .i64 4, .string s, .int .i64 n, .slice la ln lc] : Array Value)[i]? = some u → (w.alloc (.cells #[.int .i64 4, .string s, .int .i64 n, .slice la ln lc] 31)).cell? ⟨w.heap.size, i, none⟩ = some u := fun i u h => by rw [World.cell?_alloc_mark]; exact h
  have e0 := hc 0 _ rfl
  have e1 := hc 1 _ rfl
  have e2 := hc 2 _ rfl
  have e3 := hc 3 _ rfl
  have HB := Pl.hid ((Below.refl w.heap.size w).alloc (Nat.le_refl _) (.cells #[.int .i64 4, .string s, .int .i64 n, .slice la ln lc] 31))
  clear hc
  go_enter Tryd.func53, Tryd.ntmps53
  go_wp2_with fail
  go_ret
  exact ⟨rfl, HB.out⟩
set_option maxHeartbeats 4000000 in
theorem right_4_vzn (s : ByteArray) (n : Int) (la : Option Addr) (ln lc : Nat) (w : World) (hn : n = 0) (hl : 0 < ln) :
    Calls Tryd.prog 53 #[.agg #[.int .i64 4, .string s, .int .i64 n, .slice la ln lc]] w fun e w' => e = .returned (.bool false) ∧ Below w.heap.size w w' := by
  subst hn
  have hc : ∀ i u, (#[.int .i64 4, .string s, .int .i64 0, .slice la ln lc] : Array Value)[i]? = some u → (w.alloc (.cells #[.int .i64 4, .string s, .int .i64 0, .slice la ln lc] 31)).cell? ⟨w.heap.size, i, none⟩ = some u := fun i u h => by rw [World.cell?_alloc_mark]; exact h
  have e0 := hc 0 _ rfl
  have e1 := hc 1 _ rfl
  have e2 := hc 2 _ rfl
  have e3 := hc 3 _ rfl
  have HB := Pl.hid ((Below.refl w.heap.size w).alloc (Nat.le_refl _) (.cells #[.int .i64 4, .string s, .int .i64 0, .slice la ln lc] 31))
  clear hc
  have hl2 : (0 : Int) < (ln : Int) := by omega
  go_enter Tryd.func53, Tryd.ntmps53
  go_wp2_with fail
  go_ret
  exact ⟨rfl, HB.out⟩
set_option maxHeartbeats 4000000 in
theorem right_4_vzz (s : ByteArray) (n : Int) (la : Option Addr) (ln lc : Nat) (w : World) (hn : n = 0) (hl : ln = 0) :
    Calls Tryd.prog 53 #[.agg #[.int .i64 4, .string s, .int .i64 n, .slice la ln lc]] w fun e w' => e = .returned (.bool true) ∧ Below w.heap.size w w' := by
  subst hn
  subst hl
  have hc : ∀ i u, (#[.int .i64 4, .string s, .int .i64 0, .slice la 0 lc] : Array Value)[i]? = some u → (w.alloc (.cells #[.int .i64 4, .string s, .int .i64 0, .slice la 0 lc] 31)).cell? ⟨w.heap.size, i, none⟩ = some u := fun i u h => by rw [World.cell?_alloc_mark]; exact h
  have e0 := hc 0 _ rfl
  have e1 := hc 1 _ rfl
  have e2 := hc 2 _ rfl
  have e3 := hc 3 _ rfl
  have HB := Pl.hid ((Below.refl w.heap.size w).alloc (Nat.le_refl _) (.cells #[.int .i64 4, .string s, .int .i64 0, .slice la 0 lc] 31))
  clear hc
  go_enter Tryd.func53, Tryd.ntmps53
  go_wp2_with fail
  go_loop [69] (fun iv => iv = .int .i64 0) (fun _ => 0)
  case atStart => rfl
  case round =>
    subst hrel
    go_wp2_with fail
    go_ret
    exact ⟨rfl, HB.out⟩
set_option maxHeartbeats 4000000 in
theorem right_5_nvv (s : ByteArray) (n : Int) (la : Option Addr) (ln lc : Nat) (w : World) (hs : s.toList.isEmpty = false) :
    Calls Tryd.prog 53 #[.agg #[.int .i64 5, .string s, .int .i64 n, .slice la ln lc]] w fun e w' => e = .returned (.bool false) ∧ Below w.heap.size w w' := by
  have hc : ∀ i u, (#[.int .i64 5, .string s, .int .i64 n, .slice la ln lc] : Array Value)[i]? = some u → (w.alloc (.cells #[.int .i64 5, .string s, .int .i64 n, .slice la ln lc] 31)).cell? ⟨w.heap.size, i, none⟩ = some u := fun i u h => by rw [World.cell?_alloc_mark]; exact h
  have e0 := hc 0 _ rfl
  have e1 := hc 1 _ rfl
  have e2 := hc 2 _ rfl
  have e3 := hc 3 _ rfl
  have HB := Pl.hid ((Below.refl w.heap.size w).alloc (Nat.le_refl _) (.cells #[.int .i64 5, .string s, .int .i64 n, .slice la ln lc] 31))
  clear hc
  go_enter Tryd.func53, Tryd.ntmps53
  go_wp2_with fail
  go_ret
  exact ⟨rfl, HB.out⟩
set_option maxHeartbeats 4000000 in
theorem right_5_env (s : ByteArray) (n : Int) (la : Option Addr) (ln lc : Nat) (w : World) (hs : s = ⟨#[]⟩) (hn : (n != 0) = true) :
    Calls Tryd.prog 53 #[.agg #[.int .i64 5, .string s, .int .i64 n, .slice la ln lc]] w fun e w' => e = .returned (.bool false) ∧ Below w.heap.size w w' := by
  subst hs
  have hc : ∀ i u, (#[.int .i64 5, .string ⟨#[]⟩, .int .i64 n, .slice la ln lc] : Array Value)[i]? = some u → (w.alloc (.cells #[.int .i64 5, .string ⟨#[]⟩, .int .i64 n, .slice la ln lc] 31)).cell? ⟨w.heap.size, i, none⟩ = some u := fun i u h => by rw [World.cell?_alloc_mark]; exact h
  have e0 := hc 0 _ rfl
  have e1 := hc 1 _ rfl
  have e2 := hc 2 _ rfl
  have e3 := hc 3 _ rfl
  have HB := Pl.hid ((Below.refl w.heap.size w).alloc (Nat.le_refl _) (.cells #[.int .i64 5, .string ⟨#[]⟩, .int .i64 n, .slice la ln lc] 31))
  clear hc
  go_enter Tryd.func53, Tryd.ntmps53
  go_wp2_with fail
  go_ret
  exact ⟨rfl, HB.out⟩
set_option maxHeartbeats 4000000 in
theorem right_5_ezn (s : ByteArray) (n : Int) (la : Option Addr) (ln lc : Nat) (w : World) (hs : s = ⟨#[]⟩) (hn : n = 0) (hl : 0 < ln) :
    Calls Tryd.prog 53 #[.agg #[.int .i64 5, .string s, .int .i64 n, .slice la ln lc]] w fun e w' => e = .returned (.bool false) ∧ Below w.heap.size w w' := by
  subst hs
  subst hn
  have hc : ∀ i u, (#[.int .i64 5, .string ⟨#[]⟩, .int .i64 0, .slice la ln lc] : Array Value)[i]? = some u → (w.alloc (.cells #[.int .i64 5, .string ⟨#[]⟩, .int .i64 0, .slice la ln lc] 31)).cell? ⟨w.heap.size, i, none⟩ = some u := fun i u h => by rw [World.cell?_alloc_mark]; exact h
  have e0 := hc 0 _ rfl
  have e1 := hc 1 _ rfl
  have e2 := hc 2 _ rfl
  have e3 := hc 3 _ rfl
  have HB := Pl.hid ((Below.refl w.heap.size w).alloc (Nat.le_refl _) (.cells #[.int .i64 5, .string ⟨#[]⟩, .int .i64 0, .slice la ln lc] 31))
  clear hc
  have hl2 : (0 : Int) < (ln : Int) := by omega
  go_enter Tryd.func53, Tryd.ntmps53
  go_wp2_with fail
  go_ret
  exact ⟨rfl, HB.out⟩
set_option maxHeartbeats 4000000 in
theorem right_5_ezz (s : ByteArray) (n : Int) (la : Option Addr) (ln lc : Nat) (w : World) (hs : s = ⟨#[]⟩) (hn : n = 0) (hl : ln = 0) :
    Calls Tryd.prog 53 #[.agg #[.int .i64 5, .string s, .int .i64 n, .slice la ln lc]] w fun e w' => e = .returned (.bool true) ∧ Below w.heap.size w w' := by
  subst hs
  subst hn
  subst hl
  have hc : ∀ i u, (#[.int .i64 5, .string ⟨#[]⟩, .int .i64 0, .slice la 0 lc] : Array Value)[i]? = some u → (w.alloc (.cells #[.int .i64 5, .string ⟨#[]⟩, .int .i64 0, .slice la 0 lc] 31)).cell? ⟨w.heap.size, i, none⟩ = some u := fun i u h => by rw [World.cell?_alloc_mark]; exact h
  have e0 := hc 0 _ rfl
  have e1 := hc 1 _ rfl
  have e2 := hc 2 _ rfl
  have e3 := hc 3 _ rfl
  have HB := Pl.hid ((Below.refl w.heap.size w).alloc (Nat.le_refl _) (.cells #[.int .i64 5, .string ⟨#[]⟩, .int .i64 0, .slice la 0 lc] 31))
  clear hc
  go_enter Tryd.func53, Tryd.ntmps53
  go_wp2_with fail
  go_loop [69] (fun iv => iv = .int .i64 0) (fun _ => 0)
  case atStart => rfl
  case round =>
    subst hrel
    go_wp2_with fail
    go_ret
    exact ⟨rfl, HB.out⟩
set_option maxHeartbeats 4000000 in
theorem right_7_nvv (s : ByteArray) (n : Int) (la : Option Addr) (ln lc : Nat) (w : World) (hs : s.toList.isEmpty = false) :
    Calls Tryd.prog 53 #[.agg #[.int .i64 7, .string s, .int .i64 n, .slice la ln lc]] w fun e w' => e = .returned (.bool false) ∧ Below w.heap.size w w' := by
  have hc : ∀ i u, (#[.int .i64 7, .string s, .int .i64 n, .slice la ln lc] : Array Value)[i]? = some u → (w.alloc (.cells #[.int .i64 7, .string s, .int .i64 n, .slice la ln lc] 31)).cell? ⟨w.heap.size, i, none⟩ = some u := fun i u h => by rw [World.cell?_alloc_mark]; exact h
  have e0 := hc 0 _ rfl
  have e1 := hc 1 _ rfl
  have e2 := hc 2 _ rfl
  have e3 := hc 3 _ rfl
  have HB := Pl.hid ((Below.refl w.heap.size w).alloc (Nat.le_refl _) (.cells #[.int .i64 7, .string s, .int .i64 n, .slice la ln lc] 31))
  clear hc
  go_enter Tryd.func53, Tryd.ntmps53
  go_wp2_with fail
  go_ret
  exact ⟨rfl, HB.out⟩
set_option maxHeartbeats 4000000 in
theorem right_7_env (s : ByteArray) (n : Int) (la : Option Addr) (ln lc : Nat) (w : World) (hs : s = ⟨#[]⟩) (hn : (n != 0) = true) :
    Calls Tryd.prog 53 #[.agg #[.int .i64 7, .string s, .int .i64 n, .slice la ln lc]] w fun e w' => e = .returned (.bool false) ∧ Below w.heap.size w w' := by
  subst hs
  have hc : ∀ i u, (#[.int .i64 7, .string ⟨#[]⟩, .int .i64 n, .slice la ln lc] : Array Value)[i]? = some u → (w.alloc (.cells #[.int .i64 7, .string ⟨#[]⟩, .int .i64 n, .slice la ln lc] 31)).cell? ⟨w.heap.size, i, none⟩ = some u := fun i u h => by rw [World.cell?_alloc_mark]; exact h
  have e0 := hc 0 _ rfl
  have e1 := hc 1 _ rfl
  have e2 := hc 2 _ rfl
  have e3 := hc 3 _ rfl
  have HB := Pl.hid ((Below.refl w.heap.size w).alloc (Nat.le_refl _) (.cells #[.int .i64 7, .string ⟨#[]⟩, .int .i64 n, .slice la ln lc] 31))
  clear hc
  go_enter Tryd.func53, Tryd.ntmps53
  go_wp2_with fail
  go_ret
  exact ⟨rfl, HB.out⟩
set_option maxHeartbeats 4000000 in
theorem right_7_ezn (s : ByteArray) (n : Int) (la : Option Addr) (ln lc : Nat) (w : World) (hs : s = ⟨#[]⟩) (hn : n = 0) (hl : 0 < ln) :
    Calls Tryd.prog 53 #[.agg #[.int .i64 7, .string s, .int .i64 n, .slice la ln lc]] w fun e w' => e = .returned (.bool false) ∧ Below w.heap.size w w' := by
  subst hs
  subst hn
  have hc : ∀ i u, (#[.int .i64 7, .string ⟨#[]⟩, .int .i64 0, .slice la ln lc] : Array Value)[i]? = some u → (w.alloc (.cells #[.int .i64 7, .string ⟨#[]⟩, .int .i64 0, .slice la ln lc] 31)).cell? ⟨w.heap.size, i, none⟩ = some u := fun i u h => by rw [World.cell?_alloc_mark]; exact h
  have e0 := hc 0 _ rfl
  have e1 := hc 1 _ rfl
  have e2 := hc 2 _ rfl
  have e3 := hc 3 _ rfl
  have HB := Pl.hid ((Below.refl w.heap.size w).alloc (Nat.le_refl _) (.cells #[.int .i64 7, .string ⟨#[]⟩, .int .i64 0, .slice la ln lc] 31))
  clear hc
  have hl2 : (0 : Int) < (ln : Int) := by omega
  go_enter Tryd.func53, Tryd.ntmps53
  go_wp2_with fail
  go_ret
  exact ⟨rfl, HB.out⟩
set_option maxHeartbeats 4000000 in
theorem right_7_ezz (s : ByteArray) (n : Int) (la : Option Addr) (ln lc : Nat) (w : World) (hs : s = ⟨#[]⟩) (hn : n = 0) (hl : ln = 0) :
    Calls Tryd.prog 53 #[.agg #[.int .i64 7, .string s, .int .i64 n, .slice la ln lc]] w fun e w' => e = .returned (.bool true) ∧ Below w.heap.size w w' := by
  subst hs
  subst hn
  subst hl
  have hc : ∀ i u, (#[.int .i64 7, .string ⟨#[]⟩, .int .i64 0, .slice la 0 lc] : Array Value)[i]? = some u → (w.alloc (.cells #[.int .i64 7, .string ⟨#[]⟩, .int .i64 0, .slice la 0 lc] 31)).cell? ⟨w.heap.size, i, none⟩ = some u := fun i u h => by rw [World.cell?_alloc_mark]; exact h
  have e0 := hc 0 _ rfl
  have e1 := hc 1 _ rfl
  have e2 := hc 2 _ rfl
  have e3 := hc 3 _ rfl
  have HB := Pl.hid ((Below.refl w.heap.size w).alloc (Nat.le_refl _) (.cells #[.int .i64 7, .string ⟨#[]⟩, .int .i64 0, .slice la 0 lc] 31))
  clear hc
  go_enter Tryd.func53, Tryd.ntmps53
  go_wp2_with fail
  go_loop [69] (fun iv => iv = .int .i64 0) (fun _ => 0)
  case atStart => rfl
  case round =>
    subst hrel
    go_wp2_with fail
    go_ret
    exact ⟨rfl, HB.out⟩
set_option maxHeartbeats 4000000 in
theorem right_6_nvv (s : ByteArray) (n : Int) (la : Option Addr) (ln lc : Nat) (w : World) (hs : s.toList.isEmpty = false) :
    Calls Tryd.prog 53 #[.agg #[.int .i64 6, .string s, .int .i64 n, .slice la ln lc]] w fun e w' => e = .returned (.bool false) ∧ Below w.heap.size w w' := by
  have hc : ∀ i u, (#[.int .i64 6, .string s, .int .i64 n, .slice la ln lc] : Array Value)[i]? = some u → (w.alloc (.cells #[.int .i64 6, .string s, .int .i64 n, .slice la ln lc] 31)).cell? ⟨w.heap.size, i, none⟩ = some u := fun i u h => by rw [World.cell?_alloc_mark]; exact h
  have e0 := hc 0 _ rfl
  have e1 := hc 1 _ rfl
  have e2 := hc 2 _ rfl
  have e3 := hc 3 _ rfl
  have HB := Pl.hid ((Below.refl w.heap.size w).alloc (Nat.le_refl _) (.cells #[.int .i64 6, .string s, .int .i64 n, .slice la ln lc] 31))
  clear hc
  go_enter Tryd.func53, Tryd.ntmps53
  go_wp2_with fail
  go_ret
  exact ⟨rfl, HB.out⟩
set_option maxHeartbeats 4000000 in
theorem right_6_env (s : ByteArray) (n : Int) (la : Option Addr) (ln lc : Nat) (w : World) (hs : s = ⟨#[]⟩) (hn : (n != 0) = true) :
    Calls Tryd.prog 53 #[.agg #[.int .i64 6, .string s, .int .i64 n, .slice la ln lc]] w fun e w' => e = .returned (.bool false) ∧ Below w.heap.size w w' := by
  subst hs
  have hc : ∀ i u, (#[.int .i64 6, .string ⟨#[]⟩, .int .i64 n, .slice la ln lc] : Array Value)[i]? = some u → (w.alloc (.cells #[.int .i64 6, .string ⟨#[]⟩, .int .i64 n, .slice la ln lc] 31)).cell? ⟨w.heap.size, i, none⟩ = some u := fun i u h => by rw [World.cell?_alloc_mark]; exact h
  have e0 := hc 0 _ rfl
  have e1 := hc 1 _ rfl
  have e2 := hc 2 _ rfl
  have e3 := hc 3 _ rfl
  have HB := Pl.hid ((Below.refl w.heap.size w).alloc (Nat.le_refl _) (.cells #[.int .i64 6, .string ⟨#[]⟩, .int .i64 n, .slice la ln lc] 31))
  clear hc
  go_enter Tryd.func53, Tryd.ntmps53
  go_wp2_with fail
  go_ret
  exact ⟨rfl, HB.out⟩
set_option maxHeartbeats 4000000 in
theorem right_lo (k : Int) (hk : k < 1) (s : ByteArray) (n : Int) (la : Option Addr) (ln lc : Nat) (w : World) :
    Calls Tryd.prog 53 #[.agg #[.int .i64 k, .string s, .int .i64 n, .slice la ln lc]] w fun e w' => e = .returned (.bool false) ∧ Below w.heap.size w w' := by
  have a1 : (k == 1) = false := beq_eq_false_iff_ne.2 (by omega)
  have a2 : (k == 2) = false := beq_eq_false_iff_ne.2 (by omega)
  have a4 : (k == 4) = false := beq_eq_false_iff_ne.2 (by omega)
  have hc : ∀ i u, (#[.int .i64 k, .string s, .int .i64 n, .slice la ln lc] : Array Value)[i]? = some u → (w.alloc (.cells #[.int .i64 k, .string s, .int .i64 n, .slice la ln lc] 31)).cell? ⟨w.heap.size, i, none⟩ = some u := fun i u h => by rw [World.cell?_alloc_mark]; exact h
  have e0 := hc 0 _ rfl
  have e1 := hc 1 _ rfl
  have e2 := hc 2 _ rfl
  have e3 := hc 3 _ rfl
  have HB := Pl.hid ((Below.refl w.heap.size w).alloc (Nat.le_refl _) (.cells #[.int .i64 k, .string s, .int .i64 n, .slice la ln lc] 31))
  clear hc
  go_enter Tryd.func53, Tryd.ntmps53
  go_wp2_with fail
  go_ret
  exact ⟨rfl, HB.out⟩
set_option maxHeartbeats 4000000 in
theorem right_hi (k : Int) (hk : 7 < k) (s : ByteArray) (n : Int) (la : Option Addr) (ln lc : Nat) (w : World) :
    Calls Tryd.prog 53 #[.agg #[.int .i64 k, .string s, .int .i64 n, .slice la ln lc]] w fun e w' => e = .returned (.bool false) ∧ Below w.heap.size w w' := by
  have a1 : (k == 1) = false := beq_eq_false_iff_ne.2 (by omega)
  have a2 : (k == 2) = false := beq_eq_false_iff_ne.2 (by omega)
  have a4 : (k == 4) = false := beq_eq_false_iff_ne.2 (by omega)
  have a5 : decide (k < 1) = false := decide_eq_false (by omega)
  have hc : ∀ i u, (#[.int .i64 k, .string s, .int .i64 n, .slice la ln lc] : Array Value)[i]? = some u → (w.alloc (.cells #[.int .i64 k, .string s, .int .i64 n, .slice la ln lc] 31)).cell? ⟨w.heap.size, i, none⟩ = some u := fun i u h => by rw [World.cell?_alloc_mark]; exact h
  have e0 := hc 0 _ rfl
  have e1 := hc 1 _ rfl
  have e2 := hc 2 _ rfl
  have e3 := hc 3 _ rfl
  have HB := Pl.hid ((Below.refl w.heap.size w).alloc (Nat.le_refl _) (.cells #[.int .i64 k, .string s, .int .i64 n, .slice la ln lc] 31))
  clear hc
  go_enter Tryd.func53, Tryd.ntmps53
  go_wp2_with fail
  go_ret
  exact ⟨rfl, HB.out⟩
end Go.Proofs.YtakldjdohgmeiaaDoor

namespace Go.Proofs.YtakldjdohgmeiaaDoor
open Go.RowKit
set_option maxRecDepth 20000

/-- what right tells of the fields -/
theorem right_heads (k : Int) (s : ByteArray) (n : Int) (la : Option Addr) (ln lc : Nat) (hz : s.size ≤ 1099511627776) (w : World) (h6 : ¬ (k = 6 ∧ s.size = 0 ∧ n = 0)) :
    Calls Tryd.prog 53 #[.agg #[.int .i64 k, .string s, .int .i64 n, .slice la ln lc]] w fun e w' => e = .returned (.bool (RT.okHead k s n ln)) ∧ (RT.okHead k s n ln = true → ln = 0) ∧ Below w.heap.size w w' := by
  by_cases hlo : k < 1
  · rw [RT.okHead_false k s n ln (.inl hlo)]
    exact (right_lo k hlo s n la ln lc w).mono fun e w' h => ⟨h.1, fun h => (Bool.false_ne_true h).elim, h.2⟩
  by_cases hhi : 7 < k
  · rw [RT.okHead_false k s n ln (.inr hhi)]
    exact (right_hi k hhi s n la ln lc w).mono fun e w' h => ⟨h.1, fun h => (Bool.false_ne_true h).elim, h.2⟩
  have bad : ∀ {e : Ending} {w' : World} {b : Bool}, b = false → e = .returned (.bool false) ∧ Below w.heap.size w w' → e = .returned (.bool b) ∧ (b = true → ln = 0) ∧ Below w.heap.size w w' := fun hb h => by
    subst hb
    exact ⟨h.1, fun h => (Bool.false_ne_true h).elim, h.2⟩
  have good : ∀ {e : Ending} {w' : World} {b : Bool}, b = true → ln = 0 → e = .returned (.bool true) ∧ Below w.heap.size w w' → e = .returned (.bool b) ∧ (b = true → ln = 0) ∧ Below w.heap.size w w' := fun hb hl h => by
    subst hb
    exact ⟨h.1, fun _ => hl, h.2⟩
  have nf : ∀ {m : Int}, m ≠ 0 → (m != 0) = true := fun h => bne_iff_ne.2 h
  have lf : ln ≠ 0 → 0 < ln := fun h => by omega
  have lf' : ln ≠ 0 → (ln == 0) = false := fun h => beq_eq_false_iff_ne.2 h
  have sf : s.size ≠ 0 → (s.size == 0) = false := fun h => beq_eq_false_iff_ne.2 h
  rcases (show k = 1 ∨ k = 2 ∨ k = 3 ∨ k = 4 ∨ k = 5 ∨ k = 6 ∨ k = 7 by omega) with rfl | rfl | rfl | rfl | rfl | rfl | rfl
  · by_cases hn : n = 0
    · by_cases hl : ln = 0
      · cases hs : Pl.noEnd (Pl.L s)
        · exact (right_1_fzz s n la ln lc w hz hs hn hl).mono fun e w' => bad (by unfold RT.okHead; simp [hs])
        · exact (right_1_tzz s n la ln lc w hz hs hn hl).mono fun e w' => good (by unfold RT.okHead; simp [hs, hn, hl]) hl
      · exact (right_1_vzn s n la ln lc w hn (lf hl)).mono fun e w' => bad (by unfold RT.okHead; simp [hl])
    · exact (right_1_vnv s n la ln lc w (nf hn)).mono fun e w' => bad (by unfold RT.okHead; simp [hn])
  · by_cases hn : n = 0
    · by_cases hl : ln = 0
      · cases hs : Pl.noEnd (Pl.L s)
        · exact (right_2_fzz s n la ln lc w hz hs hn hl).mono fun e w' => bad (by unfold RT.okHead; simp [hs])
        · exact (right_2_tzz s n la ln lc w hz hs hn hl).mono fun e w' => good (by unfold RT.okHead; simp [hs, hn, hl]) hl
      · exact (right_2_vzn s n la ln lc w hn (lf hl)).mono fun e w' => bad (by unfold RT.okHead; simp [hl])
    · exact (right_2_vnv s n la ln lc w (nf hn)).mono fun e w' => bad (by unfold RT.okHead; simp [hn])
  · by_cases hs : s.size = 0
    · by_cases hl : ln = 0
      · exact (right_3_evz s n la ln lc w (Pl.isE_true hs) hl).mono fun e w' => good (by unfold RT.okHead; simp [hs, hl]) hl
      · exact (right_3_evn s n la ln lc w (Pl.isE_true hs) (lf hl)).mono fun e w' => bad (by unfold RT.okHead; simp [hl])
    · exact (right_3_nvv s n la ln lc w (Pl.isE_false hs)).mono fun e w' => bad (by unfold RT.okHead; simp [hs])
  · by_cases hn : n = 0
    · by_cases hl : ln = 0
      · exact (right_4_vzz s n la ln lc w hn hl).mono fun e w' => good (by unfold RT.okHead; simp [hn, hl]) hl
      · exact (right_4_vzn s n la ln lc w hn (lf hl)).mono fun e w' => bad (by unfold RT.okHead; simp [hl])
    · exact (right_4_vnv s n la ln lc w (nf hn)).mono fun e w' => bad (by unfold RT.okHead; simp [hn])
  · by_cases hs : s.size = 0
    · by_cases hn : n = 0
      · by_cases hl : ln = 0
        · exact (right_5_ezz s n la ln lc w (Pl.isE_true hs) hn hl).mono fun e w' => good (by unfold RT.okHead; simp [hs, hn, hl]) hl
        · exact (right_5_ezn s n la ln lc w (Pl.isE_true hs) hn (lf hl)).mono fun e w' => bad (by unfold RT.okHead; simp [hl])
      · exact (right_5_env s n la ln lc w (Pl.isE_true hs) (nf hn)).mono fun e w' => bad (by unfold RT.okHead; simp [hn])
    · exact (right_5_nvv s n la ln lc w (Pl.isE_false hs)).mono fun e w' => bad (by unfold RT.okHead; simp [hs])
  · by_cases hs : s.size = 0
    · by_cases hn : n = 0
      · exact absurd ⟨rfl, hs, hn⟩ h6
      · exact (right_6_env s n la ln lc w (Pl.isE_true hs) (nf hn)).mono fun e w' => bad (by unfold RT.okHead; simp [hn])
    · exact (right_6_nvv s n la ln lc w (Pl.isE_false hs)).mono fun e w' => bad (by unfold RT.okHead; simp [hs])
  · by_cases hs : s.size = 0
    · by_cases hn : n = 0
      · by_cases hl : ln = 0
        · exact (right_7_ezz s n la ln lc w (Pl.isE_true hs) hn hl).mono fun e w' => good (by unfold RT.okHead; simp [hs, hn, hl]) hl
        · exact (right_7_ezn s n la ln lc w (Pl.isE_true hs) hn (lf hl)).mono fun e w' => bad (by unfold RT.okHead; simp [hl])
      · exact (right_7_env s n la ln lc w (Pl.isE_true hs) (nf hn)).mono fun e w' => bad (by unfold RT.okHead; simp [hn])
    · exact (right_7_nvv s n la ln lc w (Pl.isE_false hs)).mono fun e w' => bad (by unfold RT.okHead; simp [hs])

set_option maxHeartbeats 8000000 in
theorem right_walk (W : World) : ∀ (t : RT), t.sz ≤ 1073741824 → ∀ (c0 c1 c2 c3 : Value), Mm.RepX W t [c0, c1, c2, c3] → ∀ (w : World), Below W.heap.size W w →
    Calls Tryd.prog 53 #[.agg #[c0, c1, c2, c3]] w fun e w' => e = .returned (.bool t.ok) ∧ Below w.heap.size w w' := by
  intro t
  induction t using RT.ind with
  | h k s nn ts ih =>
  intro hsz c0 c1 c2 c3 hX w hW
  obtain ⟨la, lc, hcs, hel⟩ := hX.open
  simp only [List.cons.injEq, and_true] at hcs
  obtain ⟨rfl, rfl, rfl, rfl⟩ := hcs
  rw [RT.sz_mk] at hsz
  by_cases h6 : ¬ (k = 6 ∧ s.size = 0 ∧ nn = 0)
  · refine (right_heads k s nn la ts.length lc (by omega) w h6).mono ?_
    rintro e w' ⟨rfl, hl, hb⟩
    refine ⟨?_, hb⟩
    cases ho : RT.okHead k s nn ts.length
    · rw [RT.ok_mk, ho]; rfl
    · have h0 := hl ho
      have hts : ts = [] := List.eq_nil_of_length_eq_zero h0
      rw [RT.ok_mk, ho, hts]; simp [RT.okL]
  obtain ⟨rfl, hs0, rfl⟩ := Classical.not_not.1 h6
  obtain rfl := Pl.isE_true hs0
  obtain ⟨n, hnn⟩ : ∃ n, n = ts.length := ⟨_, rfl⟩
  have hn' : n ≤ 1099511627776 := by have := RT.szL_len ts; omega
  obtain ⟨p, hp⟩ : ∃ p, p = w.heap.size := ⟨_, rfl⟩
  obtain ⟨w0, hw0⟩ : ∃ w0, w0 = w.alloc (.cells #[.int .i64 6, .string ⟨#[]⟩, .int .i64 0, .slice la ts.length lc] 31) := ⟨_, rfl⟩
  have HP0 : Hid (w0.heap[p]? = some (.cells #[.int .i64 6, .string ⟨#[]⟩, .int .i64 0, .slice la ts.length lc] 31 (0, 0))) := by
    show _ = _
    rw [hw0, hp]
    exact heap_alloc_new w _
  have HB0 : Hid (Below w.heap.size w w0) := by rw [hw0]; exact (Below.refl _ _).alloc (Nat.le_refl _) _
  have HS0 : Hid (w0.heap.size = w.heap.size + 1) := by show _ = _; rw [hw0]; simp
  have HK : Hid (∀ V, Below w0.heap.size w0 V → V.cell? ⟨p, 0, none⟩ = some (.int .i64 6) ∧ V.cell? ⟨p, 1, none⟩ = some (.string ⟨#[]⟩) ∧ V.cell? ⟨p, 2, none⟩ = some (.int .i64 0) ∧ V.cell? ⟨p, 3, none⟩ = some (.slice la ts.length lc)) := fun V hV => by
    have h := (hV.block p (by rw [HS0.out, hp]; omega)).trans HP0.out
    exact ⟨Mm.cellOf h rfl, Mm.cellOf h rfl, Mm.cellOf h rfl, Mm.cellOf h rfl⟩
  have HW0eq := Pl.hid hw0
  have HPeq := Pl.hid hp
  obtain ⟨k0, k1, k2, k3⟩ := HK.out w0 (Below.refl _ _)
  have HNN := Pl.hid hnn
  have HW := Pl.hid hW
  have IH := Pl.hid ih
  have HSZ : Hid (∀ t ∈ ts, t.sz ≤ 1073741824) := fun t ht => by have := RT.szL_mem ht; omega
  have HSZL : Hid (RT.szL ts ≤ 1073741824) := by show _ ≤ _; omega
  have HEL := Pl.hid hel
  have HOKT : Hid (RT.okL ts = true → (RT.mk 6 ⟨#[]⟩ 0 ts).ok = true) := fun h => by rw [RT.ok_mk, h]; rfl
  have HOKF : Hid (RT.okL ts = false → (RT.mk 6 ⟨#[]⟩ 0 ts).ok = false) := fun h => by rw [RT.ok_mk, h]; simp
  rw [← hnn] at HK HW0eq k3 ⊢
  rw [hw0, hp] at k0 k1 k2 k3
  rw [← hnn] at k0 k1 k2 k3
  clear hel hsz hX ih hw0 hp hW hnn hs0 h6
  go_enter Tryd.func53, Tryd.ntmps53
  go_wp2_with fail
  rw [← HW0eq.out]
  clear k0 k1 k2 k3
  go_loopw [69] (fun iv wr => ∃ (i : Nat), iv = .int .i64 i ∧ i ≤ n ∧ Hid (RT.okL (ts.take i) = true) ∧ Hid (Below w0.heap.size w0 wr)) (fun iv _ => n - (intOf iv).toNat)
  case atStart => exact ⟨0, rfl, Nat.zero_le _, by show _ = _; rw [List.take_zero]; simp [RT.okL], Below.refl _ _⟩
  case round =>
    obtain ⟨i, rfl, hi, HOK, HB⟩ := hrel
    rcases Nat.lt_or_ge i n with hlt | hge
    · rcases HEL.out with h0 | ⟨blk, rfl, hbl, hel⟩
      · have := HNN.out; omega
      have hlt' : i < ts.length := by rw [← HNN.out]; exact hlt
      obtain ⟨f0, f1, f2, f3, g0, g1, g2, g3, hrep⟩ := hel i hlt'
      have HWr : Hid (Below W.heap.size W wr) := HW.out.trans ((HB0.out.trans (HB.out.mono HB0.out.size)).mono HW.out.size)
      have e0 := (HWr.out.cell (p := ⟨blk, i * 4, none⟩) hbl).trans g0
      have e1 := (HWr.out.cell (p := ⟨blk, i * 4 + 1, none⟩) hbl).trans g1
      have e2 := (HWr.out.cell (p := ⟨blk, i * 4 + 2, none⟩) hbl).trans g2
      have e3 := (HWr.out.cell (p := ⟨blk, i * 4 + 3, none⟩) hbl).trans g3
      have HREP := Pl.hid hrep
      clear g0 g1 g2 g3 hrep hel
      have HSZW : Hid (w0.heap.size ≤ wr.heap.size) := HB.out.size
      go_wp2_with (refine Mm.wp_store4 _ rfl _ _ rfl wr.heap.size _ _ _ _ _ _ (heap_alloc_new wr _) rfl rfl rfl HREP.out.one ?_; intro w4 hw4 hs4 hg4; have HW4 := Pl.hid hw4; have HG4 := Pl.hid hg4; have HS4 := Pl.hid hs4; clear hw4 hs4 hg4; have q0 := Mm.cellOf (i := 0) (v := f0) HW4.out rfl; have q1 := Mm.cellOf (i := 1) (v := f1) HW4.out rfl; have q2 := Mm.cellOf (i := 2) (v := f2) HW4.out rfl; have q3 := Mm.cellOf (i := 3) (v := f3) HW4.out rfl; clear e0 e1 e2 e3)
      have HB4 : Hid (Below w0.heap.size w0 w4) := by
        refine (HB.out.alloc HB.out.size (.cells #[.int .i64 0, .string ⟨#[]⟩, .int .i64 0, .slice none 0 0] 31)).grown HG4.out (by have := HSZW.out; simp; omega) (fun k hk => by injection hk with hk; have := HSZW.out; omega)
      have HI := Pl.hid (IH.out _ (List.getElem_mem hlt') (HSZ.out _ (List.getElem_mem hlt')) f0 f1 f2 f3 HREP.out w4 (HW.out.trans ((HB0.out.trans (HB4.out.mono HB0.out.size)).mono HW.out.size)))
      cases hok : (ts[i]'hlt').ok
      · rw [hok] at HI
        have HF : Hid (RT.okL ts = false) := by
          show _ = _
          rw [RT.okL_all, List.all_eq_false]
          exact ⟨_, List.getElem_mem hlt', by rw [hok]; exact Bool.false_ne_true⟩
        clear hok
        refine HI.out.mono ?_
        rintro e w5 ⟨rfl, hb5⟩
        have HB5 := Pl.hid (HB4.out.trans (hb5.mono HB4.out.size))
        clear hb5 q0 q1 q2 q3
        go_wp2_with fail
        go_ret
        rw [HOKF.out HF.out]
        exact ⟨rfl, HB0.out.trans (HB5.out.mono HB0.out.size)⟩
      · rw [hok] at HI
        have HOK' : Hid (RT.okL (ts.take (i + 1)) = true) := by
          show _ = _
          rw [RT.okL_take ts i hlt', HOK.out, hok]
          rfl
        clear hok
        refine HI.out.mono ?_
        rintro e w5 ⟨rfl, hb5⟩
        have HB5 := Pl.hid (HB4.out.trans (hb5.mono HB4.out.size))
        clear hb5 q0 q1 q2 q3
        go_wp2_with fail
        exact ⟨⟨i + 1, by go_num, by omega, HOK', HB5⟩, by simp [intOf]; omega⟩
    · obtain rfl : i = n := by omega
      have HF : Hid (RT.okL ts = true) := by have h := HOK.out; rw [HNN.out, List.take_length] at h; exact h
      go_wp2_with fail
      go_ret
      rw [HOKT.out HF.out]
      exact ⟨rfl, HB0.out.trans (HB.out.mono HB0.out.size)⟩
end Go.Proofs.YtakldjdohgmeiaaDoor

namespace Go.Proofs.YtakldjdohgmeiaaDoor
open Go.RowKit
set_option maxRecDepth 20000

set_option maxHeartbeats 8000000 in
theorem rdepth_walk (W : World) : ∀ (t : RT), t.sz ≤ 1073741824 → ∀ (c0 c1 c2 c3 : Value), Mm.RepX W t [c0, c1, c2, c3] → ∀ (w : World), Below W.heap.size W w →
    Calls Tryd.prog 54 #[.agg #[c0, c1, c2, c3]] w fun e w' => e = .returned (.int .i64 (t.depth : Nat)) ∧ Below w.heap.size w w' := by
  intro t
  induction t using RT.ind with
  | h k s nn ts ih =>
  intro hsz c0 c1 c2 c3 hX w hW
  obtain ⟨la, lc, hcs, hel⟩ := hX.open
  simp only [List.cons.injEq, and_true] at hcs
  obtain ⟨rfl, rfl, rfl, rfl⟩ := hcs
  rw [RT.sz_mk] at hsz
  by_cases h6 : k = 6
  case neg =>
    have hk6 : (k != 6) = true := bne_iff_ne.2 h6
    have hc : ∀ i u, (#[.int .i64 k, .string s, .int .i64 nn, .slice la ts.length lc] : Array Value)[i]? = some u → (w.alloc (.cells #[.int .i64 k, .string s, .int .i64 nn, .slice la ts.length lc] 31)).cell? ⟨w.heap.size, i, none⟩ = some u := fun i u h => by rw [World.cell?_alloc_mark]; exact h
    have e0 := hc 0 _ rfl
    have HB := Pl.hid ((Below.refl w.heap.size w).alloc (Nat.le_refl _) (.cells #[.int .i64 k, .string s, .int .i64 nn, .slice la ts.length lc] 31))
    rw [RT.depth_mk, if_neg h6]
    clear hc hel hX ih hW hsz
    go_enter Tryd.func54, Tryd.ntmps54
    go_wp2_with fail
    go_ret
    exact ⟨rfl, HB.out⟩
  subst h6
  rw [RT.depth_mk, if_pos rfl]
  obtain ⟨n, hnn⟩ : ∃ n, n = ts.length := ⟨_, rfl⟩
  have hn' : n ≤ 1099511627776 := by have := RT.szL_len ts; omega
  obtain ⟨p, hp⟩ : ∃ p, p = w.heap.size := ⟨_, rfl⟩
  obtain ⟨w0, hw0⟩ : ∃ w0, w0 = w.alloc (.cells #[.int .i64 6, .string s, .int .i64 nn, .slice la ts.length lc] 31) := ⟨_, rfl⟩
  have HP0 : Hid (w0.heap[p]? = some (.cells #[.int .i64 6, .string s, .int .i64 nn, .slice la ts.length lc] 31 (0, 0))) := by
    show _ = _
    rw [hw0, hp]
    exact heap_alloc_new w _
  have HB0 : Hid (Below w.heap.size w w0) := by rw [hw0]; exact (Below.refl _ _).alloc (Nat.le_refl _) _
  have HS0 : Hid (w0.heap.size = w.heap.size + 1) := by show _ = _; rw [hw0]; simp
  have HK : Hid (∀ V, Below w0.heap.size w0 V → V.cell? ⟨p, 0, none⟩ = some (.int .i64 6) ∧ V.cell? ⟨p, 1, none⟩ = some (.string s) ∧ V.cell? ⟨p, 2, none⟩ = some (.int .i64 nn) ∧ V.cell? ⟨p, 3, none⟩ = some (.slice la ts.length lc)) := fun V hV => by
    have h := (hV.block p (by rw [HS0.out, hp]; omega)).trans HP0.out
    exact ⟨Mm.cellOf h rfl, Mm.cellOf h rfl, Mm.cellOf h rfl, Mm.cellOf h rfl⟩
  have HW0eq := Pl.hid hw0
  have HPeq := Pl.hid hp
  obtain ⟨k0, k1, k2, k3⟩ := HK.out w0 (Below.refl _ _)
  have HNN := Pl.hid hnn
  have HW := Pl.hid hW
  have IH := Pl.hid ih
  have HSZ : Hid (∀ t ∈ ts, t.sz ≤ 1073741824) := fun t ht => by have := RT.szL_mem ht; omega
  have HSZL : Hid (RT.szL ts ≤ 1073741824) := by show _ ≤ _; omega
  have HEL := Pl.hid hel
  have HDL : Hid (RT.depthL ts ≤ 1073741824) := by have := RT.depthL_le ts; show _ ≤ _; omega
  rw [← hnn] at HK HW0eq k3 ⊢
  rw [hw0, hp] at k0 k1 k2 k3
  rw [← hnn] at k0 k1 k2 k3
  clear hel hsz hX ih hw0 hp hW hnn
  go_enter Tryd.func54, Tryd.ntmps54
  go_wp2_with fail
  rw [← HW0eq.out]
  clear k0 k1 k2 k3
  go_loopw [12, 3] (fun iv dv wr => ∃ (i : Nat) (d : Nat), iv = .int .i64 i ∧ dv = .int .i64 d ∧ i ≤ n ∧ d ≤ 1073741824 ∧ Hid (d = RT.depthL (ts.take i)) ∧ Hid (Below w0.heap.size w0 wr)) (fun iv _ _ => n - (intOf iv).toNat)
  case atStart => exact ⟨0, 0, rfl, rfl, Nat.zero_le _, by omega, by show _ = _; rw [List.take_zero]; simp [RT.depthL], Below.refl _ _⟩
  case round =>
    obtain ⟨i, d, rfl, rfl, hi, hd, HD, HB⟩ := hrel
    rcases Nat.lt_or_ge i n with hlt | hge
    · rcases HEL.out with h0 | ⟨blk, rfl, hbl, hel⟩
      · have := HNN.out; omega
      have hlt' : i < ts.length := by rw [← HNN.out]; exact hlt
      obtain ⟨f0, f1, f2, f3, g0, g1, g2, g3, hrep⟩ := hel i hlt'
      have HWr : Hid (Below W.heap.size W wr) := HW.out.trans ((HB0.out.trans (HB.out.mono HB0.out.size)).mono HW.out.size)
      have e0 := (HWr.out.cell (p := ⟨blk, i * 4, none⟩) hbl).trans g0
      have e1 := (HWr.out.cell (p := ⟨blk, i * 4 + 1, none⟩) hbl).trans g1
      have e2 := (HWr.out.cell (p := ⟨blk, i * 4 + 2, none⟩) hbl).trans g2
      have e3 := (HWr.out.cell (p := ⟨blk, i * 4 + 3, none⟩) hbl).trans g3
      have HREP := Pl.hid hrep
      clear g0 g1 g2 g3 hrep hel
      have HSZW : Hid (w0.heap.size ≤ wr.heap.size) := HB.out.size
      go_wp2_with (refine Mm.wp_store4 _ rfl _ _ rfl wr.heap.size _ _ _ _ _ _ (heap_alloc_new wr _) rfl rfl rfl HREP.out.one ?_; intro w4 hw4 hs4 hg4; have HW4 := Pl.hid hw4; have HG4 := Pl.hid hg4; have HS4 := Pl.hid hs4; clear hw4 hs4 hg4; have q0 := Mm.cellOf (i := 0) (v := f0) HW4.out rfl; have q1 := Mm.cellOf (i := 1) (v := f1) HW4.out rfl; have q2 := Mm.cellOf (i := 2) (v := f2) HW4.out rfl; have q3 := Mm.cellOf (i := 3) (v := f3) HW4.out rfl; clear e0 e1 e2 e3)
      have HB4 : Hid (Below w0.heap.size w0 w4) := by
        refine (HB.out.alloc HB.out.size (.cells #[.int .i64 0, .string ⟨#[]⟩, .int .i64 0, .slice none 0 0] 31)).grown HG4.out (by have := HSZW.out; simp; omega) (fun k hk => by injection hk with hk; have := HSZW.out; omega)
      have HI := Pl.hid (IH.out _ (List.getElem_mem hlt') (HSZ.out _ (List.getElem_mem hlt')) f0 f1 f2 f3 HREP.out w4 (HW.out.trans ((HB0.out.trans (HB4.out.mono HB0.out.size)).mono HW.out.size)))
      obtain ⟨E, hE⟩ : ∃ E, E = (ts[i]'hlt').depth := ⟨_, rfl⟩
      have hEl : E ≤ 1073741824 := by have := RT.depth_le (ts[i]'hlt'); have := HSZ.out _ (List.getElem_mem hlt'); omega
      have HE := Pl.hid hE
      rw [← hE] at HI
      clear hE
      refine HI.out.mono ?_
      rintro e w5 ⟨rfl, hb5⟩
      have HB5 := Pl.hid (HB4.out.trans (hb5.mono HB4.out.size))
      clear hb5 q0 q1 q2 q3
      go_wp2_with fail
      refine ⟨⟨i + 1, max d E, by go_num, by rw [show ((max d E : Nat) : Int) = max (d : Int) (E : Int) by omega], by omega, by omega, ?_, HB5⟩, by simp [intOf]; omega⟩
      show _ = _
      rw [RT.depthL_take ts i hlt', ← HE.out, HD.out]
    · obtain rfl : i = n := by omega
      have HF : Hid (d = RT.depthL ts) := by have h := HD.out; rw [HNN.out, List.take_length] at h; exact h
      go_wp2_with fail
      go_ret
      exact ⟨Pl.ret1i (by have := HF.out; omega), HB0.out.trans (HB.out.mono HB0.out.size)⟩
end Go.Proofs.YtakldjdohgmeiaaDoor
