/- pantrylaw16.ReplyBack: at all nodes, bytes and numbers the law returns true. Conditions: what is read is of bulk at most 1048576; the listed variables stand as they were laid. -/
import Derived.Test.YtakldjdohgmeiaaDoorBuReplyBack15
namespace Go.Proofs.YtakldjdohgmeiaaDoor.replyBack
open Go.ChangeShapes Go.WideShapes Go.ChangeAt Go.RowKit
open Go.ChangeMaps (open_string shut_string)

theorem walk {H : Type} {d0 d1 d2 : DataW H} {W0 : World} (v0 : Value) (l : List Nd) (v1 : Value) (bl : List UInt8) (n : Int) (h0 : Mm.NodesV W0 v0 l ∧ ndW l ≤ 5 * Rows.uptoBulk d0 ∧ ∀ nd ∈ l, Pl.In64 nd.n) (h1 : Mm.Bs W0 v1 bl ∧ bl.length ≤ Rows.uptoBulk d1) (h2 : -9223372036854775808 ≤ n ∧ n ≤ 9223372036854775807)
    (W : World) (hT : Mm.Tab W) (hE : Mm.Errs W) (hU : Mm.U8 W) (hX : Mm.MaxI W) (hk : Rows.uptoBulkAll [d0, d1, d2] ≤ 1048576) (hW : W0 = W := by rfl) :
    Calls Tryd.prog 8 #[v0, v1, .int .i64 n] W fun e w' => e = .returned (.bool true) ∧ Below W.heap.size W w' := by
  subst hW
  simp only [Rows.uptoBulkAll] at hk
  exact back16_walk W0 v0 v1 l bl n h0.1 (by omega) h0.2.2 h1.1 (by omega) h2 hT hU hX hE

set_option maxRecDepth 100000 in
theorem lifted (os : Os) (started : os.Started) (H : Type) (enc : TypeId × Value → H) (F : Stop.Interp) :
    ReturnsInHanded {} Tryd.checked os 8 .any ((Rows.OpenSpec.upto Rows.replyBackSpec).preRow enc Tryd.prog Tryd.f8 Rows.replyBackUptoRow.domain false Rows.replyBackUptoRow.laid)
      (((Rows.OpenSpec.upto Rows.replyBackSpec).at F).post enc Tryd.prog Tryd.f8 false true false false) := by
  refine Fr.lifted (C := Tryd.checked) (s := (Rows.OpenSpec.upto Rows.replyBackSpec)) (tb := 4) (by kernel_rfl) started (by kernel_rfl) Tryd.func8
    (Fr.witness_shaped (enc := enc) (C := Tryd.checked) (World.laidAll Tryd.prog os Rows.replyBackUptoRow.laid) #[.slice none 0 0, .slice none 0 0, .int .i64 0] (World.laidAll_os _ _ _) (World.shaped_of_ZipB (by kernel_rfl) (by kernel_rfl)) (by kernel_rfl)
      (OpenSpec.preRow_of_cond 8 (x := ([.nil, .nil, .lit (.int .i64 0)], [], [])) (by kernel_rfl) (by kernel_rfl) (fun k hk => by cases hk; kernel_rfl) (by kernel_rfl) (laidMet_laidAll _ (by kernel_rfl) (by kernel_rfl))))
    (by kernel_rfl) (by kernel_rfl) rfl rfl Tryd.underlying4 ?_ ?_
  · intro ds hd
    match ds, hd with
    | [d0, d1, d2], _ => rfl
  · intro W base args ds before hval hA hz hk hsz hL hsh
    rw [MakeChecks.laidMetH_plain _ _ _ (by kernel_rfl)] at hL
    have hT := Fr.tab hL
    have hE := Fr.errs hL.tail.tail.tail.tail hL.tail.tail.tail.tail.tail
    have hU := Fr.u8 hL.tail.tail.tail hL.tail.tail.tail.tail.tail.tail
    have hX := Fr.maxI hsh
    rw [Tryd.params8] at hval hA hsz
    obtain ⟨v0, vs0, d0, ds0, p0, q0, hargs, rfl, rfl, h0, r0⟩ := trodAll_cons hA
    obtain ⟨v1, vs1, d1, ds1, p1, q1, rfl, rfl, rfl, h1, r1⟩ := trodAll_cons r0
    obtain ⟨v2, vs2, d2, ds2, p2, q2, rfl, rfl, rfl, h2, r2⟩ := trodAll_cons r1
    obtain ⟨rfl, rfl, rfl⟩ := trodAll_nil r2
    obtain rfl : args = #[v0, v1, v2] := by cases args; simp_all
    obtain ⟨sa0, sl0, sc0, rfl⟩ := okWide_slice Tryd.underlying39 (hval 0 39 v0 rfl rfl)
    obtain ⟨fu0, g0⟩ := h0
    change DataW.trod enc _ W 0 _ true fu0 39 [.slice sa0 sl0 sc0] = some (d0, p0) at g0
    obtain ⟨a0, w0⟩ := Arg.nodes g0
    obtain ⟨sa1, sl1, sc1, rfl⟩ := okWide_slice Tryd.underlying24 (hval 1 24 v1 rfl rfl)
    obtain ⟨fu1, g1⟩ := h1
    change DataW.trod enc _ W 0 _ true fu1 24 [.slice sa1 sl1 sc1] = some (d1, p1) at g1
    obtain ⟨a1, w1⟩ := Arg.bytesU g1
    obtain ⟨a2, rfl, rfl, rfl, w2⟩ := open_int Tryd.underlying3 (hval 2 3 v2 rfl rfl) h2
    exact walk (.slice sa0 sl0 sc0) a0 (.slice sa1 sl1 sc1) a1 a2 w0 w1 (bounds_i64 w2) W hT hE hU hX (of_decide_eq_true (hk _ rfl))

theorem said : Rows.ReplyBackUptoSaid :=
  OpenClaim.holds_of_cond 8 Tryd.f8 rfl rfl rfl rfl rfl rfl rfl ⟨rfl, rfl, rfl, rfl, rfl⟩ rfl rfl rfl rfl rfl (by kernel_rfl) Tryd.func8 (by kernel_rfl)
    (of_decide_eq_true (by kernel_rfl)) (by unfold Func.isWrapper; first | (rw [if_pos (by decide +kernel)]; kernel_rfl) | (rw [if_neg (by decide +kernel)]; exact ⟨rfl, rfl⟩))
    (fun os started H enc _ F => by rw [OpenClaim.pre_eq_preRow]; exact lifted os started H enc F)

theorem plain (f : FuncId) (fn : Func) (hf : Tryd.pinned.checked.prog.funcNamed "pantry/pantrylaw16.ReplyBack" = some f) (hfn : Tryd.pinned.checked.prog.funcs[f]? = some fn) :
    true = Tryd.pinned.checked.prog.looks [] ∧ ∀ (j : Nat) t, fn.params[j]? = some t → Tryd.pinned.checked.prog.wantsStandIn t = false := by
  obtain rfl : f = 8 := Option.some.inj ((show Tryd.prog.funcNamed "pantry/pantrylaw16.ReplyBack" = some 8 by kernel_rfl).symm.trans hf) |>.symm
  obtain rfl : fn = Tryd.f8 := (Option.some.inj (Tryd.func8.symm.trans hfn)).symm
  refine ⟨by kernel_rfl, fun j t ht => ?_⟩
  rw [Tryd.params8] at ht
  have hm := Array.mem_of_getElem? ht
  have hall : ([39, 24, 3].all fun u => !Tryd.prog.wantsStandIn u) = true := by kernel_rfl
  have hm' : t ∈ ([39, 24, 3] : List TypeId) := by simpa using hm
  exact (show Tryd.prog.wantsStandIn t = false by simpa using List.all_eq_true.1 hall t hm')

/-- the statement: the tied card -/
theorem proved : Rows.ReplyBackUptoCardSaid :=
  Claim7.holds_tied_plain_at .later [] _ _ _ _ said (fun _ h => by cases h) (by kernel_rfl) (fun _ h => by cases h) replyBackUpto_row_tie rfl ⟨rfl, rfl⟩ (by kernel_rfl) rfl plain (by kernel_rfl)
#print axioms proved
end Go.Proofs.YtakldjdohgmeiaaDoor.replyBack
