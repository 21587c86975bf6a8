/- internal/bytealg.MaxLen holds some number: of a world that is shaped. Conditions stand in the law. Conditions stand in each law. -/
import Derived.Test.YtgpbgldnaongnaaGreatDoorBuWireOut9
import Derived.Test.YtgpbgldnaongnaaGreatDoorBuWireOut10
namespace Go.Proofs.YtgpbgldnaongnaaGreatDoor.Fr
open Go.ChangeShapes Go.WideShapes Go.ChangeAt Go.RowKit
set_option maxRecDepth 100000
theorem maxI {W : World} (h : W.ShapedOpen Tryz.prog) : Mm.MaxI W := by
  refine Mm.maxI_of ?_
  obtain ⟨cs, hh, hs, hr⟩ := h.1 6 #[.int .i64 0] 3 (of_decide_eq_true (by kernel_rfl)) (by kernel_rfl)
  obtain ⟨ts, hts, _, hall⟩ := hr (by kernel_rfl)
  rw [show Tryz.prog.cellTypes Tryz.prog.depth 3 = some [3] by kernel_rfl] at hts
  cases hts
  have h1 : 0 < cs.size := by rw [hs]; decide
  have h0 : cs[0]? = some cs[0] := Array.getElem?_eq_some_iff.2 ⟨h1, rfl⟩
  obtain ⟨u, hu', hok⟩ := hall 0 cs[0] h0
  have : u = 3 := by
    injection hu' with hu'
    exact hu'.symm
  subst this
  have hcell : W.cell? ⟨6, 0, none⟩ = some cs[0] := by
    unfold World.cell?
    rw [hh]
    exact h0
  rw [hcell]
  unfold Cell.ok at hok
  rw [Tryz.underlying3] at hok
  generalize cs[0] = v at hok ⊢
  cases v with
  | int kd n =>
    by_cases hk : kd = .i64
    · subst hk
      exact ⟨n, rfl⟩
    · exfalso
      revert hok
      simp
      intro h
      exact absurd h hk
  | _ => simp at hok
end Go.Proofs.YtgpbgldnaongnaaGreatDoor.Fr
