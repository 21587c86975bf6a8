/- pantrylaw16.ReplyForm: at all bytes the law returns true. Conditions: what is read is of bulk at most 1048576; the listed variables stand as they were laid. -/
import Derived.Test.YtakldjdohgmeiaaDoorBuReplyForm12
namespace Go.Proofs.YtakldjdohgmeiaaDoor.replyForm
open Go.ChangeShapes Go.WideShapes Go.ChangeAt Go.RowKit
open Go.ChangeMaps (open_string shut_string)

theorem walk {H : Type} {d0 : DataW H} {W0 : World} (v0 : Value) (l : List UInt8) (h0 : Mm.Bs W0 v0 l ∧ l.length ≤ Rows.uptoBulk d0)
    (W : World) (hT : Mm.Tab W) (hE : Mm.Errs W) (hU : Mm.U8 W) (hX : Mm.MaxI W) (hk : Rows.uptoBulkAll [d0] ≤ 1048576) (hW : W0 = W := by rfl) :
    Calls Tryd.prog 9 #[v0] W fun e w' => e = .returned (.bool true) ∧ Below W.heap.size W w' := by
  subst hW
  simp only [Rows.uptoBulkAll] at hk
  exact form_walk W0 v0 l h0.1 (by omega) hT hU hX hE

set_option maxRecDepth 100000 in
theorem lifted (os : Os) (started : os.Started) (H : Type) (enc : TypeId × Value → H) (F : Stop.Interp) :
    ReturnsInHanded {} Tryd.checked os 9 .any ((Rows.OpenSpec.upto Rows.replyFormSpec).preRow enc Tryd.prog Tryd.f9 Rows.replyFormUptoRow.domain false Rows.replyFormUptoRow.laid)
      (((Rows.OpenSpec.upto Rows.replyFormSpec).at F).post enc Tryd.prog Tryd.f9 false true false false) := by
  refine Fr.lifted (C := Tryd.checked) (s := (Rows.OpenSpec.upto Rows.replyFormSpec)) (tb := 4) (by kernel_rfl) started (by kernel_rfl) Tryd.func9
    (Fr.witness_shaped (enc := enc) (C := Tryd.checked) (World.laidAll Tryd.prog os Rows.replyFormUptoRow.laid) #[.slice none 0 0] (World.laidAll_os _ _ _) (World.shaped_of_ZipB (by kernel_rfl) (by kernel_rfl)) (by kernel_rfl)
      (OpenSpec.preRow_of_cond 8 (x := ([.nil], [], [])) (by kernel_rfl) (by kernel_rfl) (fun k hk => by cases hk; kernel_rfl) (by kernel_rfl) (laidMet_laidAll _ (by kernel_rfl) (by kernel_rfl))))
    (by kernel_rfl) (by kernel_rfl) rfl rfl Tryd.underlying4 ?_ ?_
  · intro ds hd
    match ds, hd with
    | [d0], _ => rfl
  · intro W base args ds before hval hA hz hk hsz hL hsh
    rw [MakeChecks.laidMetH_plain _ _ _ (by kernel_rfl)] at hL
    have hT := Fr.tab hL
    have hE := Fr.errs hL.tail.tail.tail.tail hL.tail.tail.tail.tail.tail
    have hU := Fr.u8 hL.tail.tail.tail hL.tail.tail.tail.tail.tail.tail
    have hX := Fr.maxI hsh
    rw [Tryd.params9] at hval hA hsz
    obtain ⟨v0, vs0, d0, ds0, p0, q0, hargs, rfl, rfl, h0, r0⟩ := trodAll_cons hA
    obtain ⟨rfl, rfl, rfl⟩ := trodAll_nil r0
    obtain rfl : args = #[v0] := by cases args; simp_all
    obtain ⟨sa0, sl0, sc0, rfl⟩ := okWide_slice Tryd.underlying24 (hval 0 24 v0 rfl rfl)
    obtain ⟨fu0, g0⟩ := h0
    change DataW.trod enc _ W 0 _ true fu0 24 [.slice sa0 sl0 sc0] = some (d0, p0) at g0
    obtain ⟨a0, w0⟩ := Arg.bytesU g0
    exact walk (.slice sa0 sl0 sc0) a0 w0 W hT hE hU hX (of_decide_eq_true (hk _ rfl))

theorem said : Rows.ReplyFormUptoSaid :=
  OpenClaim.holds_of_cond 9 Tryd.f9 rfl rfl rfl rfl rfl rfl rfl ⟨rfl, rfl, rfl, rfl, rfl⟩ rfl rfl rfl rfl rfl (by kernel_rfl) Tryd.func9 (by kernel_rfl)
    (of_decide_eq_true (by kernel_rfl)) (by unfold Func.isWrapper; first | (rw [if_pos (by decide +kernel)]; kernel_rfl) | (rw [if_neg (by decide +kernel)]; exact ⟨rfl, rfl⟩))
    (fun os started H enc _ F => by rw [OpenClaim.pre_eq_preRow]; exact lifted os started H enc F)

theorem plain (f : FuncId) (fn : Func) (hf : Tryd.pinned.checked.prog.funcNamed "pantry/pantrylaw16.ReplyForm" = some f) (hfn : Tryd.pinned.checked.prog.funcs[f]? = some fn) :
    true = Tryd.pinned.checked.prog.looks [] ∧ ∀ (j : Nat) t, fn.params[j]? = some t → Tryd.pinned.checked.prog.wantsStandIn t = false := by
  obtain rfl : f = 9 := Option.some.inj ((show Tryd.prog.funcNamed "pantry/pantrylaw16.ReplyForm" = some 9 by kernel_rfl).symm.trans hf) |>.symm
  obtain rfl : fn = Tryd.f9 := (Option.some.inj (Tryd.func9.symm.trans hfn)).symm
  refine ⟨by kernel_rfl, fun j t ht => ?_⟩
  rw [Tryd.params9] at ht
  have hm := Array.mem_of_getElem? ht
  have hall : ([24].all fun u => !Tryd.prog.wantsStandIn u) = true := by kernel_rfl
  have hm' : t ∈ ([24] : List TypeId) := by simpa using hm
  exact (show Tryd.prog.wantsStandIn t = false by simpa using List.all_eq_true.1 hall t hm')

/-- the statement: the tied card -/
theorem proved : Rows.ReplyFormUptoCardSaid :=
  Claim7.holds_tied_plain_at .later [] _ _ _ _ said (fun _ h => by cases h) (by kernel_rfl) (fun _ h => by cases h) replyFormUpto_row_tie rfl ⟨rfl, rfl⟩ (by kernel_rfl) rfl plain (by kernel_rfl)
#print axioms proved
end Go.Proofs.YtakldjdohgmeiaaDoor.replyForm
