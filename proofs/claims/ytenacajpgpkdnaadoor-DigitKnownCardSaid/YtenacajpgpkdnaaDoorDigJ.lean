/- The layer's functions at known numbers and words; the law's 'wakes' and 'counted'. The table of powers and the two errors of the library stand as they were laid. -/
import Derived.Test.YtenacajpgpkdnaaDoorDigD
import Derived.Test.YtenacajpgpkdnaaDoorDigG
namespace Go.Proofs.YtenacajpgpkdnaaDoor
open Go.RowKit
set_option maxRecDepth 20000

theorem int_known {s : ByteArray} {v c : Int} (w : World) (hs : s.size ≤ 140737488351232) (hE : Mm.Errs w) (h : Pl.rIv (Pl.L s) = v) (hc : Pl.rIc (Pl.L s) = c) :
    Calls Tryd.prog 32 #[.string s] w fun e w' => e = .returned (.tuple #[.int .i64 v, .int .i64 c]) ∧ Below w.heap.size w w' := by
  rw [← h, ← hc]; exact int_walk s w hs hE
theorem uint_known {s : ByteArray} {v c : Int} (w : World) (hs : s.size ≤ 140737488351232) (hE : Mm.Errs w) (h : Pl.rUv (Pl.L s) = v) (hc : Pl.rUc (Pl.L s) = c) :
    Calls Tryd.prog 34 #[.string s] w fun e w' => e = .returned (.tuple #[.int .u64 v, .int .i64 c]) ∧ Below w.heap.size w w' := by
  rw [← h, ← hc]; exact uint_walk s w hs hE
theorem text_known {n : Int} {r : ByteArray} (w : World) (hn : Pl.In64 n) (hT : Mm.Tab w) (h : Pl.B (Lib.itoa n) = r) :
    Calls Tryd.prog 16 #[.int .i64 n] w fun e w' => e = .returned (.string r) ∧ Below w.heap.size w w' := by
  rw [← h]; exact text_walk n w hn hT
theorem span_known {a b n f t : Int} (w : World) (ha : Pl.In64 a) (hb : Pl.In64 b) (hn : Pl.In64 n) (hf : Pl.spF a b n = f) (ht : Pl.spT a b n = t) :
    Calls Tryd.prog 50 #[.int .i64 a, .int .i64 b, .int .i64 n] w fun e w' => e = .returned (.tuple #[.int .i64 f, .int .i64 t]) ∧ w = w' := by
  rw [← hf, ← ht]; exact span_walk a b n w ha hb hn
theorem place_known {i n v : Int} {b : Bool} (w : World) (hi : Pl.In64 i) (hn : Pl.In64 n) (hv : Pl.plV i n = v) (hb : Pl.plB i n = b) :
    Calls Tryd.prog 51 #[.int .i64 i, .int .i64 n] w fun e w' => e = .returned (.tuple #[.int .i64 v, .bool b]) ∧ w = w' := by
  rw [← hv, ← hb]; exact place_walk i n w hi hn
theorem add_known {a b v c : Int} (w : World) (ha : Pl.In64 a) (hb : Pl.In64 b) (hv : Pl.addV a b = v) (hc : Pl.addC a b = c) :
    Calls Tryd.prog 53 #[.int .i64 a, .int .i64 b] w fun e w' => e = .returned (.tuple #[.int .i64 v, .int .i64 c]) ∧ w = w' := by
  rw [← hv, ← hc]; exact add_walk a b w ha hb

namespace Pl
theorem itoa_known {n : Int} {l : List UInt8} (h : rI l = some n) : B (Lib.itoa n) = B l := by rw [itoa_rI h]
end Pl

theorem wakes01_walk (w : World) (hT : Mm.Tab w) (hE : Mm.Errs w) :
    Calls Tryd.prog 49 #[] w fun e w' => e = .returned (.bool true) ∧ Below w.heap.size w w' := by
  have HT := Pl.hid hT
  have HE := Pl.hid hE
  clear hT hE
  go_enter Tryd.func49, Tryd.ntmps49
  go_wp2_with fail
  refine (int_known (v := -12) (c := 0) _ (by decide) HE.out (by decide +kernel) (by decide +kernel)).mono ?_
  rintro e w1 ⟨rfl, hb⟩
  have H1 := Pl.hid hb
  clear hb
  go_wp2_with fail
  refine (uint_known (v := 7) (c := 0) _ (by decide) (HE.out.on H1.out) (by decide +kernel) (by decide +kernel)).mono ?_
  rintro e w2 ⟨rfl, hb⟩
  have H2 := Pl.hid (H1.out.trans (hb.mono H1.out.size))
  clear hb H1
  go_wp2_with fail
  refine (span_known (f := 1) (t := 4) _ (by unfold Pl.In64; decide) (by unfold Pl.In64; decide) (by unfold Pl.In64; decide) (by decide +kernel) (by decide +kernel)).mono ?_
  rintro e w3 ⟨rfl, rfl⟩
  go_wp2_with fail
  refine (place_known (v := 2) (b := true) _ (by unfold Pl.In64; decide) (by unfold Pl.In64; decide) (by decide +kernel) (by decide +kernel)).mono ?_
  rintro e w4 ⟨rfl, rfl⟩
  go_wp2_with fail
  refine (text_known (n := -305) (r := ⟨#[45, 51, 48, 53]⟩) _ (by unfold Pl.In64; decide) (HT.out.on H2.out) (Pl.itoa_known (l := [45, 51, 48, 53]) (by decide +kernel))).mono ?_
  rintro e w5 ⟨rfl, hb⟩
  have H3 := Pl.hid (H2.out.trans (hb.mono H2.out.size))
  clear hb H2
  go_wp2_with fail
  go_ret
  exact ⟨rfl, H3.out⟩

namespace Pl
def cnt' (i n : Int) : Int := if i < 0 then (if i < -2000 then -2000 else i) + n else i
theorem cnt'_neg {i n : Int} (h : i < -2000) : cnt' i n = -2000 + n := by unfold cnt'; rw [if_pos (by omega), if_pos h]
theorem cnt'_mid {i n : Int} (h : ¬ i < -2000) (h' : i < 0) : cnt' i n = i + n := by unfold cnt'; rw [if_pos h', if_neg h]
theorem cnt'_pos {i n : Int} (h : ¬ i < 0) : cnt' i n = i := by unfold cnt'; rw [if_neg h]
end Pl

theorem counted_walk (i n : Int) (w : World) (hi : Pl.In64 i) (h0 : 0 ≤ n) (h1 : n ≤ 1000) :
    Calls Tryd.prog 52 #[.int .i64 i, .int .i64 n] w fun e w' => e = .returned (.int .i64 (Pl.cnt' i n)) ∧ w = w' := by
  obtain ⟨i1, i2⟩ := hi
  by_cases h : i < 0
  · by_cases h' : i < -2000
    · have HR := Pl.hid (Pl.cnt'_neg (n := n) h')
      have hm : max i (-2000) = -2000 := by omega
      go_enter Tryd.func52, Tryd.ntmps52
      go_wp2_with fail
      go_ret
      exact ⟨Pl.ret1i (by rw [HR.out]), rfl⟩
    · have HR := Pl.hid (Pl.cnt'_mid (n := n) h' h)
      have hm : max i (-2000) = i := by omega
      go_enter Tryd.func52, Tryd.ntmps52
      go_wp2_with fail
      go_ret
      exact ⟨Pl.ret1i (by rw [HR.out]), rfl⟩
  · have HR := Pl.hid (Pl.cnt'_pos (n := n) h)
    go_enter Tryd.func52, Tryd.ntmps52
    go_wp2_with fail
    go_ret
    exact ⟨Pl.ret1i HR.out.symm, rfl⟩
end Go.Proofs.YtenacajpgpkdnaaDoor
