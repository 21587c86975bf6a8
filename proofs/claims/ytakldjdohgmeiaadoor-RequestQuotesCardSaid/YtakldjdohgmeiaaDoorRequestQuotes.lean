/- pantrylaw17.RequestQuotes: at every row of texts in bytes the law returns true. The listed variables stand as they were laid. -/
import Derived.Test.YtakldjdohgmeiaaDoorQuoC
import Derived.Test.YtakldjdohgmeiaaDoorInlE
import Derived.Test.YtakldjdohgmeiaaDoorArg
namespace Go.Proofs.YtakldjdohgmeiaaDoor.requestQuotes
open Go.ChangeShapes Go.WideShapes Go.ChangeAt Go.RowKit
open Go.ChangeMaps (open_string shut_string)

theorem walk {W0 : World} (v : Value) (ws : List (List UInt8)) (hv : Mm.WordsV W0 v ws) (W : World) (hE : Mm.Errs W) (hR : Mm.RErr W) (hW : W0 = W := by rfl) :
    Calls Tryd.prog 6 #[v] W fun e w' => e = .returned (.bool true) ∧ Below W.heap.size W w' := by subst hW; exact quotes_walk v ws W0 hv hR hE (inlE W0 hR)

set_option maxRecDepth 100000 in
theorem lifted (os : Os) (started : os.Started) (H : Type) (enc : TypeId × Value → H) (F : Stop.Interp) :
    ReturnsInHanded {} Tryd.checked os 6 .any ((OpenSpec.ofChange Rows.requestQuotesSpec).preRow enc Tryd.prog Tryd.f6 Rows.requestQuotesRow.domain false Rows.requestQuotesRow.laid)
      (((OpenSpec.ofChange Rows.requestQuotesSpec).at F).post enc Tryd.prog Tryd.f6 false true false false) := by
  refine Fr.lifted (C := Tryd.checked) (s := (OpenSpec.ofChange Rows.requestQuotesSpec)) (tb := 4) (by kernel_rfl) started (by kernel_rfl) Tryd.func6
    (Fr.witness_shaped (enc := enc) (C := Tryd.checked) (World.laidAll Tryd.prog os Rows.requestQuotesRow.laid) #[.slice none 0 0] (World.laidAll_os _ _ _) (World.shaped_of_ZipB (by kernel_rfl) (by kernel_rfl)) (by kernel_rfl)
      (OpenSpec.preRow_of_cond 8 (x := ([.nil], [], [])) (by kernel_rfl) (by kernel_rfl) (fun k hk => by cases hk) (by kernel_rfl) (laidMet_laidAll _ (by kernel_rfl) (by kernel_rfl))))
    (by kernel_rfl) (by kernel_rfl) rfl rfl Tryd.underlying4 ?_ ?_
  · intro ds hd
    match ds, hd with
    | [d0], _ => rfl
  · intro W base args ds before hval hA hz hk hsz hL hsh
    rw [MakeChecks.laidMetH_plain _ _ _ (by kernel_rfl)] at hL
    have hE := Fr.errs hL.tail.tail.tail hL.tail.tail.tail.tail
    have hR := Arg.rerr hL.tail.tail.tail.tail.tail
    rw [Tryd.params6] at hval hA hsz
    obtain ⟨v0, vs0, d0, ds0, p0, q0, hargs, rfl, rfl, h0, r0⟩ := trodAll_cons hA
    obtain ⟨rfl, rfl, rfl⟩ := trodAll_nil r0
    obtain rfl : args = #[v0] := by cases args; simp_all
    obtain ⟨sa0, sl0, sc0, rfl⟩ := okWide_slice Tryd.underlying50 (hval 0 50 v0 rfl rfl)
    obtain ⟨fu0, g0⟩ := h0
    change DataW.trod enc _ W 0 _ true fu0 50 [.slice sa0 sl0 sc0] = some (d0, p0) at g0
    obtain ⟨a0, w0⟩ := Arg.words g0
    exact walk (.slice sa0 sl0 sc0) a0 w0 W hE hR

theorem said : Rows.RequestQuotesSaid :=
  OpenClaim.holds_of_cond 6 Tryd.f6 rfl rfl rfl rfl rfl rfl rfl ⟨rfl, rfl, rfl, rfl, rfl⟩ rfl rfl rfl rfl rfl (by kernel_rfl) Tryd.func6 (by kernel_rfl)
    (of_decide_eq_true (by kernel_rfl)) (by unfold Func.isWrapper; first | (rw [if_pos (by decide +kernel)]; kernel_rfl) | (rw [if_neg (by decide +kernel)]; exact ⟨rfl, rfl⟩))
    (fun os started H enc _ F => by rw [OpenClaim.pre_eq_preRow]; exact lifted os started H enc F)

theorem plain (f : FuncId) (fn : Func) (hf : Tryd.pinned.checked.prog.funcNamed "pantry/pantrylaw17.RequestQuotes" = some f) (hfn : Tryd.pinned.checked.prog.funcs[f]? = some fn) :
    true = Tryd.pinned.checked.prog.looks [] ∧ ∀ (j : Nat) t, fn.params[j]? = some t → Tryd.pinned.checked.prog.wantsStandIn t = false := by
  obtain rfl : f = 6 := Option.some.inj ((show Tryd.prog.funcNamed "pantry/pantrylaw17.RequestQuotes" = some 6 by kernel_rfl).symm.trans hf) |>.symm
  obtain rfl : fn = Tryd.f6 := (Option.some.inj (Tryd.func6.symm.trans hfn)).symm
  refine ⟨by kernel_rfl, fun j t ht => ?_⟩
  rw [Tryd.params6] at ht
  have hm := Array.mem_of_getElem? ht
  have hall : ([50].all fun u => !Tryd.prog.wantsStandIn u) = true := by kernel_rfl
  have hm' : t ∈ ([50] : List TypeId) := by simpa using hm
  exact (show Tryd.prog.wantsStandIn t = false by simpa using List.all_eq_true.1 hall t hm')

/-- the statement: the tied card -/
theorem proved : Rows.RequestQuotesCardSaid :=
  Claim7.holds_tied_plain_at .later [] _ _ _ _ said (fun _ h => by cases h) (by kernel_rfl) (fun _ h => by cases h) requestQuotes_row_tie rfl ⟨rfl, rfl⟩ (by kernel_rfl) rfl plain (by kernel_rfl)
#print axioms proved
end Go.Proofs.YtakldjdohgmeiaaDoor.requestQuotes
