/- pantrylaw30.WireOut: at all replies, bytes and steps the law returns true. Conditions: what is read is of bulk at most 1048576; the listed variables stand as they were laid. -/
import Derived.Test.YtgpbgldnaongnaaGreatDoorBuWireOut10
import Derived.Test.YtgpbgldnaongnaaGreatDoorBuWireOut11
namespace Go.Proofs.YtgpbgldnaongnaaGreatDoor.wireOut
open Go.ChangeShapes Go.WideShapes Go.ChangeAt Go.RowKit
open Go.ChangeMaps (open_string shut_string)

theorem walk (v0 vb : Value) (l : List RT) (W : World) (hT : Mm.Tab W) (hE : Mm.Errs W) (hR : Mm.RErr W) (hX : Mm.MaxI W) (b0 b2 : Nat) (hb : b0 + b2 ≤ 1048576)
    (hl : Mm.RepY W (.mk 0 ⟨#[]⟩ 0 l) [.int .i64 0, .string ⟨#[]⟩, .int .i64 0, v0]) (hin : ∀ t ∈ l, t.In) (hsz : RT.szL l + 5 ≤ 5 * b0)
    (z who : Int) (bv c3 c4 c5 c6 : Value) (t : RT) (ht : Mm.RepY W t [c3, c4, c5, c6]) (htsz : t.sz ≤ 5 * b2) :
    Calls Tryz.prog 3 #[v0, vb, .agg #[.int .i64 z, .int .i64 who, bv, c3, c4, c5, c6]] W fun e w' => e = .returned (.bool true) ∧ Below W.heap.size W w' :=
  wireout_walk W hT hX hR hE (inlE W hR) v0 vb l hl hin (by omega) z who bv c3 c4 c5 c6 t ht (by omega)

set_option maxRecDepth 100000 in
theorem lifted (os : Os) (started : os.Started) (H : Type) (enc : TypeId × Value → H) (F : Stop.Interp) :
    ReturnsInHanded {} Tryz.checked os 3 .any ((Rows.OpenSpec.upto Rows.wireOutSpec).preRow enc Tryz.prog Tryz.f3 Rows.wireOutUptoRow.domain false Rows.wireOutUptoRow.laid)
      (((Rows.OpenSpec.upto Rows.wireOutSpec).at F).post enc Tryz.prog Tryz.f3 false true false false) := by
  refine Fr.lifted (C := Tryz.checked) (s := (Rows.OpenSpec.upto Rows.wireOutSpec)) (tb := 4) (by kernel_rfl) started (by kernel_rfl) Tryz.func3
    (Fr.witness_shaped (enc := enc) (C := Tryz.checked) (World.laidAll Tryz.prog os Rows.wireOutUptoRow.laid) #[.slice none 0 0, .slice none 0 0, .agg #[.int .i64 0, .int .i64 0, .slice none 0 0, .int .i64 0, .string .empty, .int .i64 0, .slice none 0 0]] (World.laidAll_os _ _ _) (World.shaped_of_ZipB (by kernel_rfl) (by kernel_rfl)) (by kernel_rfl)
      (OpenSpec.preRow_of_cond 8 (x := ([.nil, .nil, .agg [.lit (.int .i64 0), .lit (.int .i64 0), .nil, .agg [.lit (.int .i64 0), .lit (.string []), .lit (.int .i64 0), .nil]]], [], [])) (by kernel_rfl) (by kernel_rfl) (fun k hk => by cases hk; kernel_rfl) (by kernel_rfl) (laidMet_laidAll _ (by kernel_rfl) (by kernel_rfl))))
    (by kernel_rfl) (by kernel_rfl) rfl rfl Tryz.underlying4 ?_ ?_
  · intro ds hd
    match ds, hd with
    | [d0, d1, d2], _ => rfl
  · intro W base args ds before hval hA hz hk hsz hL hsh
    rw [MakeChecks.laidMetH_plain _ _ _ (by kernel_rfl)] at hL
    have hT := Fr.tab hL
    have hE := Fr.errs hL.tail.tail.tail.tail hL.tail.tail.tail.tail.tail
    have hR := Arg.rerr hL.tail.tail.tail.tail.tail.tail
    have hX := Fr.maxI hsh
    rw [Tryz.params3] at hval hA hsz
    obtain ⟨v0, vs0, d0, ds0, p0, q0, hargs, rfl, rfl, h0, r0⟩ := trodAll_cons hA
    obtain ⟨v1, vs1, d1, ds1, p1, q1, rfl, rfl, rfl, h1, r1⟩ := trodAll_cons r0
    obtain ⟨v2, vs2, d2, ds2, p2, q2, rfl, rfl, rfl, h2, r2⟩ := trodAll_cons r1
    obtain ⟨rfl, rfl, rfl⟩ := trodAll_nil r2
    obtain rfl : args = #[v0, v1, v2] := by cases args; simp_all
    obtain ⟨sa0, sl0, sc0, rfl⟩ := okWide_slice Tryz.underlying22 (hval 0 22 v0 rfl rfl)
    obtain ⟨fu0, g0⟩ := h0
    change DataW.trod enc _ W 0 _ true fu0 22 [.slice sa0 sl0 sc0] = some (d0, p0) at g0
    obtain ⟨l, y1, y2, y3⟩ := Arg.repliesO g0
    obtain ⟨cs, rfl, _⟩ := okWide_struct Tryz.underlying27 (hval 2 27 v2 rfl rfl)
    obtain ⟨fu2, g2⟩ := h2
    change DataW.trod enc _ W 0 _ true fu2 27 cs.toList = some (d2, p2) at g2
    obtain ⟨z, who, bv, c3, c4, c5, c6, t, hcs, s1, _, s3⟩ := Arg.stepO g2
    obtain rfl : cs = #[.int .i64 z, .int .i64 who, bv, c3, c4, c5, c6] := Array.toList_inj.1 hcs
    have hb : Rows.uptoBulkAll [d0, d1, d2] ≤ 1048576 := of_decide_eq_true (hk _ rfl)
    simp only [Rows.uptoBulkAll] at hb
    exact walk _ v1 l W hT hE hR hX (Rows.uptoBulk d0) (Rows.uptoBulk d2) (by omega) y1 y2 y3 z who bv c3 c4 c5 c6 t s1 s3

theorem said : Rows.WireOutUptoSaid :=
  OpenClaim.holds_of_cond 3 Tryz.f3 rfl rfl rfl rfl rfl rfl rfl ⟨rfl, rfl, rfl, rfl, rfl⟩ rfl rfl rfl rfl rfl (by kernel_rfl) Tryz.func3 (by kernel_rfl)
    (of_decide_eq_true (by kernel_rfl)) (by unfold Func.isWrapper; first | (rw [if_pos (by decide +kernel)]; kernel_rfl) | (rw [if_neg (by decide +kernel)]; exact ⟨rfl, rfl⟩))
    (fun os started H enc _ F => by rw [OpenClaim.pre_eq_preRow]; exact lifted os started H enc F)

theorem plain (f : FuncId) (fn : Func) (hf : Tryz.pinned.checked.prog.funcNamed "pantry/pantrylaw30.WireOut" = some f) (hfn : Tryz.pinned.checked.prog.funcs[f]? = some fn) :
    true = Tryz.pinned.checked.prog.looks [] ∧ ∀ (j : Nat) t, fn.params[j]? = some t → Tryz.pinned.checked.prog.wantsStandIn t = false := by
  obtain rfl : f = 3 := Option.some.inj ((show Tryz.prog.funcNamed "pantry/pantrylaw30.WireOut" = some 3 by kernel_rfl).symm.trans hf) |>.symm
  obtain rfl : fn = Tryz.f3 := (Option.some.inj (Tryz.func3.symm.trans hfn)).symm
  refine ⟨by kernel_rfl, fun j t ht => ?_⟩
  rw [Tryz.params3] at ht
  have hm := Array.mem_of_getElem? ht
  have hall : ([22, 23, 27].all fun u => !Tryz.prog.wantsStandIn u) = true := by kernel_rfl
  have hm' : t ∈ ([22, 23, 27] : List TypeId) := by simpa using hm
  exact (show Tryz.prog.wantsStandIn t = false by simpa using List.all_eq_true.1 hall t hm')

/-- the statement: the tied card -/
theorem proved : Rows.WireOutUptoCardSaid :=
  Claim7.holds_tied_plain_at .later [] _ _ _ _ said (fun _ h => by cases h) (by kernel_rfl) (fun _ h => by cases h) wireOutUpto_row_tie rfl ⟨rfl, rfl⟩ (by kernel_rfl) rfl plain (by kernel_rfl)
#print axioms proved
end Go.Proofs.YtgpbgldnaongnaaGreatDoor.wireOut
