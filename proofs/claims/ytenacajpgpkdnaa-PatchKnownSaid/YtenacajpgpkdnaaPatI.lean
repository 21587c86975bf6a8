/- Contract of wakes: it returns true. -/
import Derived.Test.YtenacajpgpkdnaaPatH
import Derived.Test.YtenacajpgpkdnaaPatD
namespace Go.Proofs.Ytenacajpgpkdnaa
open Go.RowKit
theorem ov_known {s v r : ByteArray} {p c : Int} (w : World) (hp : Pl.In64 p) (hs : s.size ≤ 140737488351232) (hv : v.size ≤ 140737488351232) (h : Pl.ovS s p v = r) (hc : Pl.ovC s p v = c) :
    Calls Try.prog 19 #[.string s, .int .i64 p, .string v] w fun e w' => e = .returned (.tuple #[.string r, .int .i64 c]) ∧ Below w.heap.size w w' := by
  rw [← h, ← hc]; exact overlay_walk s p v w hp hs hv
theorem sb_known {s r : ByteArray} {i b x c : Int} (w : World) (hs : s.size ≤ 140737488351232) (h : Pl.sbS s i b = r) (hx : Pl.sbW s i b = x) (hc : Pl.sbC s i b = c) :
    Calls Try.prog 29 #[.string s, .int .i64 i, .int .i64 b] w fun e w' => e = .returned (.tuple #[.string r, .int .i64 x, .int .i64 c]) ∧ Below w.heap.size w w' := by
  rw [← h, ← hx, ← hc]; exact setbit_walk s i b w hs
theorem ones_known {s : ByteArray} {a b n : Int} (w : World) (ha : Pl.In64 a) (hb : Pl.In64 b) (hs : s.size ≤ 140737488351232) (h : Pl.onesL (Pl.L s) a b = n) :
    Calls Try.prog 25 #[.string s, .int .i64 a, .int .i64 b] w fun e w' => e = .returned (.int .i64 n) ∧ Below w.heap.size w w' := by
  rw [← h]; exact ones_walk s a b w ha hb hs
theorem wakes_walk (w : World) :
    Calls Try.prog 30 #[] w fun e w' => e = .returned (.bool true) ∧ Below w.heap.size w w' := by
  go_enter Try.func30, Try.ntmps30
  go_wp2_with fail
  refine (ov_known (r := ⟨#[104, 69, 76, 108, 111]⟩) (c := 0) _ (by unfold Pl.In64; decide) (by decide) (by decide) (by decide +kernel) (by decide +kernel)).mono ?_
  rintro e w1 ⟨rfl, hb1⟩
  have H1 := Pl.hid hb1
  clear hb1
  go_wp2_with fail
  refine (sb_known (r := ⟨#[99]⟩) (x := 0) (c := 0) _ (by decide) (by decide +kernel) (by decide +kernel) (by decide +kernel)).mono ?_
  rintro e w2 ⟨rfl, hb2⟩
  have H2 := Pl.hid (H1.out.trans (hb2.mono H1.out.size))
  clear hb2 H1
  go_wp2_with fail
  refine (ones_known (n := 10) _ (by unfold Pl.In64; decide) (by unfold Pl.In64; decide) (by decide) (by decide +kernel)).mono ?_
  rintro e w3 ⟨rfl, hb3⟩
  have H3 := Pl.hid (H2.out.trans (hb3.mono H2.out.size))
  clear hb3 H2
  go_wp2_with fail
  go_ret
  exact ⟨rfl, H3.out⟩
end Go.Proofs.Ytenacajpgpkdnaa
