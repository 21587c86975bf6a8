/- Contract of the reference's SetBit, whole. Conditions: texts within the form's reach; numbers of 64 bits. -/
import Derived.Test.YtenacajpgpkdnaaPatG
namespace Go.Proofs.Ytenacajpgpkdnaa
open Go.RowKit

theorem refsetbit_walk (s : ByteArray) (i b : Int) (w : World) (hs : s.size ≤ 140737488351232) :
    Calls Try.prog 28 #[.string s, .int .i64 i, .int .i64 b] w fun e w' => e = .returned (.tuple #[.string (Pl.sbS s i b), .int .i64 (Pl.sbW s i b), .int .i64 (Pl.sbC s i b)]) ∧ Below w.heap.size w w' := by
  by_cases ha : Pl.sbArg i b
  · exact refsetbit_bad s i b w ha
  · by_cases hl : Pl.sbLong s i
    · exact refsetbit_long s i b w ha hl
    · have d1 : (s.size : Int) ≤ 1048576 := by unfold Pl.sbLong at hl; omega
      have d2 : i ≤ 8388607 := by unfold Pl.sbLong at hl; omega
      have h0 : 0 ≤ i := by unfold Pl.sbArg at ha; omega
      have hb : b = 0 ∨ b = 1 := by unfold Pl.sbArg at ha; omega
      rw [(Pl.sb_ok ha hl).1, (Pl.sb_ok ha hl).2.1, (Pl.sb_ok ha hl).2.2]
      rcases hb with rfl | rfl <;> rcases Pl.bitL_01 (Pl.L s) i.toNat with hw | hw <;> rw [hw]
      · exact refsetbit_00 s i w hs h0 d1 d2 hw
      · exact refsetbit_10 s i w hs h0 d1 d2 hw
      · exact refsetbit_01 s i w hs h0 d1 d2 hw
      · exact refsetbit_11 s i w hs h0 d1 d2 hw
end Go.Proofs.Ytenacajpgpkdnaa
