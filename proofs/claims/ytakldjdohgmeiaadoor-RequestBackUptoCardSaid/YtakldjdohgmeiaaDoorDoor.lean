/- The frame of the laws whose rows list package-level variables: the witness's world, what the list gives. Conditions stand in each law. -/
import Derived.Test.YtakldjdohgmeiaaDoorFrame
import Derived.Test.YtakldjdohgmeiaaDoorDigGs
import Derived.Test.YtakldjdohgmeiaaDoorCards
import Derived.Test.YtakldjdohgmeiaaDoorTie
import Derived.Lay
import Derived.MakeChecks
import Derived.Stop.LaidErr
namespace Go.Proofs.YtakldjdohgmeiaaDoor.Fr
open Go.ChangeShapes Go.WideShapes Go.ChangeAt Go.RowKit
set_option maxRecDepth 100000

theorem witness_shaped {H : Type} {enc : TypeId × Value → H} {C : Checked} {os : Os} {f : FuncId} {fn : Func} {s : OpenSpec} {conds : List PathCond} {apart : Bool} {laid : List (String × DataW Unit)} (w0 : World) (args : Array Value) (hos : w0.os = os)
    (hsh : (w0.forCall (fun _ _ => 0) ⟨#[], args, []⟩).Shaped C.prog)
    (hok : Input.okWideB C.prog (w0.forCall (fun _ _ => 0) ⟨#[], args, []⟩) f ⟨#[], args, []⟩ = true)
    (hrow : s.preRow enc C.prog fn conds apart laid (w0.forCall (fun _ _ => 0) ⟨#[], args, []⟩).memory args) :
    ∃ (w : World) (tape : Tape) (i : Input), w.os = os ∧ (w.forCall tape i).Shaped C.prog ∧ i.vars = [] ∧ Input.okWide C.prog (w.forCall tape i) .any w.heap.size f i ∧
      s.preRow enc C.prog fn conds apart laid (w.forCall tape i).memory i.args ∧ ({} : Assume).holds C.prog (lone (Frame.enter C.prog f i.args .normal) [] (w.forCall tape i)) :=
  ⟨w0, fun _ _ => 0, ⟨#[], args, []⟩, hos, hsh, (Input.okWide_of_okWideB (base := 0) hok).1, (Input.okWide_of_okWideB hok).2, hrow, by
    simp only [Assume.holds]
    exact ⟨by simp, by simp, fun _ => Modest.zero, by simp, by simp⟩⟩

theorem gPow : Tryd.prog.globalNamed "internal/strconv.uint64pow10" = some 9 := by kernel_rfl
theorem gPowType : (Tryd.prog.globals[9]?).map (·.type) = some 166 := by kernel_rfl
theorem cellsPow : Tryd.prog.cellsOf 166 = 20 := by kernel_rfl
theorem cellsU64 : Tryd.prog.cellsOf 141 = 1 := by kernel_rfl
/-- the table of powers, third on every list -/
theorem tab {W : World} {x y : String × DataW Unit} {rest : List (String × DataW Unit)} (h : laidMet Tryd.prog (x :: y :: ("internal/strconv.uint64pow10", Rows.laid_internal_strconv_uint64pow10) :: rest) W) : Mm.Tab W :=
  Mm.tab_of (Lib.tabIs_of_head (rest := rest) gPow gPowType Tryd.underlying166 Tryd.underlying141 cellsU64 cellsPow h.tail.tail)

theorem gRange : Tryd.prog.globalNamed "strconv.ErrRange" = some 11 := by kernel_rfl
theorem gRangeType : (Tryd.prog.globals[11]?).map (·.type) = some 53 := by kernel_rfl
theorem gSyntax : Tryd.prog.globalNamed "strconv.ErrSyntax" = some 10 := by kernel_rfl
theorem gSyntaxType : (Tryd.prog.globals[10]?).map (·.type) = some 53 := by kernel_rfl
theorem starErr : "*" ++ "errors.errorString" = "*errors.errorString" := by decide
theorem rowErr (u : TypeId) (h : Tryd.prog.typeName? 3 u = some "*errors.errorString") : u = 177 :=
  typeName_ptr_named (nm := "errors.errorString") (by rw [starErr]; kernel_rfl) (by kernel_rfl) (by decide) u (by rw [starErr]; exact h)
theorem cellsErr : Tryd.prog.cellsOf 179 = 1 := by kernel_rfl
theorem cellsStr : Tryd.prog.cellsOf 9 = 1 := by kernel_rfl
/-- the two errors of the library -/
theorem errs {W : World} {r r' : List (String × DataW Unit)} (h1 : laidMet Tryd.prog (("strconv.ErrRange", Rows.laid_strconv_ErrRange) :: r) W) (h2 : laidMet Tryd.prog (("strconv.ErrSyntax", Rows.laid_strconv_ErrSyntax) :: r') W) : Mm.Errs W := by
  obtain ⟨a1, s1, v1, _⟩ := laid_sentinel h1 gRange gRangeType Tryd.underlying53 rowErr Tryd.underlying177 Tryd.underlying179 rfl rfl Tryd.underlying9 cellsErr cellsStr
  obtain ⟨a2, s2, v2, _⟩ := laid_sentinel h2 gSyntax gSyntaxType Tryd.underlying53 rowErr Tryd.underlying177 Tryd.underlying179 rfl rfl Tryd.underlying9 cellsErr cellsStr
  exact Mm.errs_of ⟨_, _, v2⟩ ⟨_, _, v1⟩
end Go.Proofs.YtakldjdohgmeiaaDoor.Fr
