/- pantrylaw16.ReplyCommands: at all texts the law returns true. Conditions: what is read is of bulk at most 1048576; the listed variables stand as they were laid. -/
import Derived.Test.YtakldjdohgmeiaaDoorBuReplyCommands16
import Derived.Test.YtakldjdohgmeiaaDoorBuReplyCommands17
namespace Go.Proofs.YtakldjdohgmeiaaDoor.replyCommands
open Go.ChangeShapes Go.WideShapes Go.ChangeAt Go.RowKit
open Go.ChangeMaps (open_string shut_string)

theorem mem_sum : ∀ {ws : List (List UInt8)} {x : List UInt8}, x ∈ ws → x.length ≤ Arg.sumL ws
  | [], x, h => by cases h
  | y :: ws, x, h => by
    unfold Arg.sumL
    rw [List.map_cons, List.sum_cons]
    rcases List.mem_cons.1 h with rfl | h
    · omega
    · have : x.length ≤ (ws.map List.length).sum := mem_sum h
      omega
theorem walk {H : Type} {d0 : DataW H} {W0 : World} {P : Prop} (v0 : Value) (ws : List (List UInt8)) (s : ByteArray) (h0 : Mm.RowT W0 v0 ws ∧ ws.length + Arg.sumL ws ≤ Rows.uptoBulk d0) (_hz : P)
    (W : World) (hT : Mm.Tab W) (hE : Mm.Errs W) (hU : Mm.U8 W) (hX : Mm.MaxI W) (hk : Rows.uptoBulkAll [d0, .lit (.string s.data.toList)] ≤ 1048576) (hW : W0 = W := by rfl) :
    Calls Tryd.prog 3 #[v0, .string s] W fun e w' => e = .returned (.bool true) ∧ Below W.heap.size W w' := by
  subst hW
  simp only [Rows.uptoBulkAll, Rows.uptoBulk] at hk
  have hl : s.data.toList.length = s.size := rfl
  have h1 := h0.2
  have h2 : ws.length + (ws.map List.length).sum ≤ 1048576 := by
    have : Arg.sumL ws = (ws.map List.length).sum := rfl
    omega
  exact com16_walk W0 v0 ws s h0.1 h2 (fun x hx => by have := mem_sum hx; omega) (by omega) hT hU hX hE

set_option maxRecDepth 100000 in
theorem lifted (os : Os) (started : os.Started) (H : Type) (enc : TypeId × Value → H) (F : Stop.Interp) :
    ReturnsInHanded {} Tryd.checked os 3 .any ((Rows.OpenSpec.upto Rows.replyCommandsSpec).preRow enc Tryd.prog Tryd.f3 Rows.replyCommandsUptoRow.domain false Rows.replyCommandsUptoRow.laid)
      (((Rows.OpenSpec.upto Rows.replyCommandsSpec).at F).post enc Tryd.prog Tryd.f3 false true false false) := by
  refine Fr.lifted (C := Tryd.checked) (s := (Rows.OpenSpec.upto Rows.replyCommandsSpec)) (tb := 4) (by kernel_rfl) started (by kernel_rfl) Tryd.func3
    (Fr.witness_shaped (enc := enc) (C := Tryd.checked) (World.laidAll Tryd.prog os Rows.replyCommandsUptoRow.laid) #[.slice none 0 0, .string .empty] (World.laidAll_os _ _ _) (World.shaped_of_ZipB (by kernel_rfl) (by kernel_rfl)) (by kernel_rfl)
      (OpenSpec.preRow_of_cond 8 (x := ([.nil, .lit (.string [])], [], [])) (by kernel_rfl) (by kernel_rfl) (fun k hk => by cases hk; kernel_rfl) (by kernel_rfl) (laidMet_laidAll _ (by kernel_rfl) (by kernel_rfl))))
    (by kernel_rfl) (by kernel_rfl) rfl rfl Tryd.underlying4 ?_ ?_
  · intro ds hd
    match ds, hd with
    | [d0, d1], _ => rfl
  · intro W base args ds before hval hA hz hk hsz hL hsh
    rw [MakeChecks.laidMetH_plain _ _ _ (by kernel_rfl)] at hL
    have hT := Fr.tab hL
    have hE := Fr.errs hL.tail.tail.tail.tail hL.tail.tail.tail.tail.tail
    have hU := Fr.u8 hL.tail.tail.tail hL.tail.tail.tail.tail.tail.tail
    have hX := Fr.maxI hsh
    rw [Tryd.params3] at hval hA hsz
    obtain ⟨v0, vs0, d0, ds0, p0, q0, hargs, rfl, rfl, h0, r0⟩ := trodAll_cons hA
    obtain ⟨v1, vs1, d1, ds1, p1, q1, rfl, rfl, rfl, h1, r1⟩ := trodAll_cons r0
    obtain ⟨rfl, rfl, rfl⟩ := trodAll_nil r1
    obtain rfl : args = #[v0, v1] := by cases args; simp_all
    obtain ⟨sa0, sl0, sc0, rfl⟩ := okWide_slice Tryd.underlying22 (hval 0 22 v0 rfl rfl)
    obtain ⟨fu0, g0⟩ := h0
    change DataW.trod enc _ W 0 _ true fu0 22 [.slice sa0 sl0 sc0] = some (d0, p0) at g0
    obtain ⟨a0, w0⟩ := Arg.texts g0
    obtain ⟨a1, rfl, rfl, rfl, w1⟩ := open_string Tryd.underlying9 (hval 1 9 v1 rfl rfl) h1
    have z1 := Fr.str_size (sized_string hsz (j := 1) (t := 9) rfl rfl)
    exact walk (.slice sa0 sl0 sc0) a0 a1 w0 z1 W hT hE hU hX (of_decide_eq_true (hk _ rfl))

theorem said : Rows.ReplyCommandsUptoSaid :=
  OpenClaim.holds_of_cond 3 Tryd.f3 rfl rfl rfl rfl rfl rfl rfl ⟨rfl, rfl, rfl, rfl, rfl⟩ rfl rfl rfl rfl rfl (by kernel_rfl) Tryd.func3 (by kernel_rfl)
    (of_decide_eq_true (by kernel_rfl)) (by unfold Func.isWrapper; first | (rw [if_pos (by decide +kernel)]; kernel_rfl) | (rw [if_neg (by decide +kernel)]; exact ⟨rfl, rfl⟩))
    (fun os started H enc _ F => by rw [OpenClaim.pre_eq_preRow]; exact lifted os started H enc F)

theorem plain (f : FuncId) (fn : Func) (hf : Tryd.pinned.checked.prog.funcNamed "pantry/pantrylaw16.ReplyCommands" = some f) (hfn : Tryd.pinned.checked.prog.funcs[f]? = some fn) :
    true = Tryd.pinned.checked.prog.looks [] ∧ ∀ (j : Nat) t, fn.params[j]? = some t → Tryd.pinned.checked.prog.wantsStandIn t = false := by
  obtain rfl : f = 3 := Option.some.inj ((show Tryd.prog.funcNamed "pantry/pantrylaw16.ReplyCommands" = some 3 by kernel_rfl).symm.trans hf) |>.symm
  obtain rfl : fn = Tryd.f3 := (Option.some.inj (Tryd.func3.symm.trans hfn)).symm
  refine ⟨by kernel_rfl, fun j t ht => ?_⟩
  rw [Tryd.params3] at ht
  have hm := Array.mem_of_getElem? ht
  have hall : ([22, 9].all fun u => !Tryd.prog.wantsStandIn u) = true := by kernel_rfl
  have hm' : t ∈ ([22, 9] : List TypeId) := by simpa using hm
  exact (show Tryd.prog.wantsStandIn t = false by simpa using List.all_eq_true.1 hall t hm')

/-- the statement: the tied card -/
theorem proved : Rows.ReplyCommandsUptoCardSaid :=
  Claim7.holds_tied_plain_at .later [] _ _ _ _ said (fun _ h => by cases h) (by kernel_rfl) (fun _ h => by cases h) replyCommandsUpto_row_tie rfl ⟨rfl, rfl⟩ (by kernel_rfl) rfl plain (by kernel_rfl)
#print axioms proved
end Go.Proofs.YtakldjdohgmeiaaDoor.replyCommands
