/- pantrylaw16.ReplyMakes: at all texts, numbers and nodes the law returns true. Conditions: what is read is of bulk at most 1048576; the listed variables stand as they were laid. -/
import Derived.Test.YtakldjdohgmeiaaDoorBuReplyMakes15
import Derived.Test.YtakldjdohgmeiaaDoorBuReplyMakes16
namespace Go.Proofs.YtakldjdohgmeiaaDoor.replyMakes
open Go.ChangeShapes Go.WideShapes Go.ChangeAt Go.RowKit
open Go.ChangeMaps (open_string shut_string)

theorem mem_sum : ∀ {ws : List (List UInt8)} {x : List UInt8}, x ∈ ws → x.length ≤ Arg.sumL ws
  | [], x, h => by cases h
  | y :: ws, x, h => by
    unfold Arg.sumL
    rw [List.map_cons, List.sum_cons]
    rcases List.mem_cons.1 h with rfl | h
    · omega
    · have : x.length ≤ (ws.map List.length).sum := mem_sum h
      omega
theorem walk {H : Type} {d2 d3 : DataW H} {W0 : World} {P Q : Prop} (s : ByteArray) (n : Int) (vt : Value) (ws : List (List UInt8)) (v : Value) (l : List Nd) (_hz : P) (_hn : Q)
    (h2 : Mm.RowT W0 vt ws ∧ ws.length + Arg.sumL ws ≤ Rows.uptoBulk d2 ∧ (vt = .slice none 0 0 ∨ ∃ ad k c, vt = .slice (some ad) k c)) (h3 : Mm.NodesV W0 v l ∧ ndW l ≤ 5 * Rows.uptoBulk d3 ∧ ∀ nd ∈ l, Pl.In64 nd.n)
    (W : World) (hT : Mm.Tab W) (hX : Mm.MaxI W) (hk : Rows.uptoBulkAll [.lit (.string s.data.toList), .lit (.int .i64 n), d2, d3] ≤ 1048576) (hW : W0 = W := by rfl) :
    Calls Tryd.prog 5 #[.string s, .int .i64 n, vt, v] W fun e w' => e = .returned (.bool true) ∧ Below W.heap.size W w' := by
  subst hW
  simp only [Rows.uptoBulkAll, Rows.uptoBulk] at hk
  have hl : s.data.toList.length = s.size := rfl
  have h1 := h2.2.1
  have h4 : ws.length + (ws.map List.length).sum ≤ 1048576 := by
    have : Arg.sumL ws = (ws.map List.length).sum := rfl
    omega
  exact makes_walk W0 s n vt ws v l (by omega) h2.1 h2.2.2 h4 (fun x hx => by have := mem_sum hx; omega) h3.1 (by omega) h3.2.2 hT hX

set_option maxRecDepth 100000 in
theorem lifted (os : Os) (started : os.Started) (H : Type) (enc : TypeId × Value → H) (F : Stop.Interp) :
    ReturnsInHanded {} Tryd.checked os 5 .any ((Rows.OpenSpec.upto Rows.replyMakesSpec).preRow enc Tryd.prog Tryd.f5 Rows.replyMakesUptoRow.domain false Rows.replyMakesUptoRow.laid)
      (((Rows.OpenSpec.upto Rows.replyMakesSpec).at F).post enc Tryd.prog Tryd.f5 false true false false) := by
  refine Fr.lifted (C := Tryd.checked) (s := (Rows.OpenSpec.upto Rows.replyMakesSpec)) (tb := 4) (by kernel_rfl) started (by kernel_rfl) Tryd.func5
    (Fr.witness_shaped (enc := enc) (C := Tryd.checked) (World.laidAll Tryd.prog os Rows.replyMakesUptoRow.laid) #[.string .empty, .int .i64 0, .slice none 0 0, .slice none 0 0] (World.laidAll_os _ _ _) (World.shaped_of_ZipB (by kernel_rfl) (by kernel_rfl)) (by kernel_rfl)
      (OpenSpec.preRow_of_cond 8 (x := ([.lit (.string []), .lit (.int .i64 0), .nil, .nil], [], [])) (by kernel_rfl) (by kernel_rfl) (fun k hk => by cases hk; kernel_rfl) (by kernel_rfl) (laidMet_laidAll _ (by kernel_rfl) (by kernel_rfl))))
    (by kernel_rfl) (by kernel_rfl) rfl rfl Tryd.underlying4 ?_ ?_
  · intro ds hd
    match ds, hd with
    | [d0, d1, d2, d3], _ => rfl
  · intro W base args ds before hval hA hz hk hsz hL hsh
    rw [MakeChecks.laidMetH_plain _ _ _ (by kernel_rfl)] at hL
    have hT := Fr.tab hL
    have hX := Fr.maxI hsh
    rw [Tryd.params5] at hval hA hsz
    obtain ⟨v0, vs0, d0, ds0, p0, q0, hargs, rfl, rfl, h0, r0⟩ := trodAll_cons hA
    obtain ⟨v1, vs1, d1, ds1, p1, q1, rfl, rfl, rfl, h1, r1⟩ := trodAll_cons r0
    obtain ⟨v2, vs2, d2, ds2, p2, q2, rfl, rfl, rfl, h2, r2⟩ := trodAll_cons r1
    obtain ⟨v3, vs3, d3, ds3, p3, q3, rfl, rfl, rfl, h3, r3⟩ := trodAll_cons r2
    obtain ⟨rfl, rfl, rfl⟩ := trodAll_nil r3
    obtain rfl : args = #[v0, v1, v2, v3] := by cases args; simp_all
    obtain ⟨a0, rfl, rfl, rfl, w0⟩ := open_string Tryd.underlying9 (hval 0 9 v0 rfl rfl) h0
    have z0 := Fr.str_size (sized_string hsz (j := 0) (t := 9) rfl rfl)
    obtain ⟨a1, rfl, rfl, rfl, w1⟩ := open_int Tryd.underlying2 (hval 1 2 v1 rfl rfl) h1
    obtain ⟨sa2, sl2, sc2, rfl⟩ := okWide_slice Tryd.underlying22 (hval 2 22 v2 rfl rfl)
    obtain ⟨fu2, g2⟩ := h2
    change DataW.trod enc _ W 0 _ true fu2 22 [.slice sa2 sl2 sc2] = some (d2, p2) at g2
    obtain ⟨a2, w2⟩ := Arg.textsF g2
    obtain ⟨sa3, sl3, sc3, rfl⟩ := okWide_slice Tryd.underlying39 (hval 3 39 v3 rfl rfl)
    obtain ⟨fu3, g3⟩ := h3
    change DataW.trod enc _ W 0 _ true fu3 39 [.slice sa3 sl3 sc3] = some (d3, p3) at g3
    obtain ⟨a3, w3⟩ := Arg.nodes g3
    exact walk a0 a1 (.slice sa2 sl2 sc2) a2 (.slice sa3 sl3 sc3) a3 z0 (bounds_i64 w1) w2 w3 W hT hX (of_decide_eq_true (hk _ rfl))

theorem said : Rows.ReplyMakesUptoSaid :=
  OpenClaim.holds_of_cond 5 Tryd.f5 rfl rfl rfl rfl rfl rfl rfl ⟨rfl, rfl, rfl, rfl, rfl⟩ rfl rfl rfl rfl rfl (by kernel_rfl) Tryd.func5 (by kernel_rfl)
    (of_decide_eq_true (by kernel_rfl)) (by unfold Func.isWrapper; first | (rw [if_pos (by decide +kernel)]; kernel_rfl) | (rw [if_neg (by decide +kernel)]; exact ⟨rfl, rfl⟩))
    (fun os started H enc _ F => by rw [OpenClaim.pre_eq_preRow]; exact lifted os started H enc F)

theorem plain (f : FuncId) (fn : Func) (hf : Tryd.pinned.checked.prog.funcNamed "pantry/pantrylaw16.ReplyMakes" = some f) (hfn : Tryd.pinned.checked.prog.funcs[f]? = some fn) :
    true = Tryd.pinned.checked.prog.looks [] ∧ ∀ (j : Nat) t, fn.params[j]? = some t → Tryd.pinned.checked.prog.wantsStandIn t = false := by
  obtain rfl : f = 5 := Option.some.inj ((show Tryd.prog.funcNamed "pantry/pantrylaw16.ReplyMakes" = some 5 by kernel_rfl).symm.trans hf) |>.symm
  obtain rfl : fn = Tryd.f5 := (Option.some.inj (Tryd.func5.symm.trans hfn)).symm
  refine ⟨by kernel_rfl, fun j t ht => ?_⟩
  rw [Tryd.params5] at ht
  have hm := Array.mem_of_getElem? ht
  have hall : ([9, 2, 22, 39].all fun u => !Tryd.prog.wantsStandIn u) = true := by kernel_rfl
  have hm' : t ∈ ([9, 2, 22, 39] : List TypeId) := by simpa using hm
  exact (show Tryd.prog.wantsStandIn t = false by simpa using List.all_eq_true.1 hall t hm')

/-- the statement: the tied card -/
theorem proved : Rows.ReplyMakesUptoCardSaid :=
  Claim7.holds_tied_plain_at .later [] _ _ _ _ said (fun _ h => by cases h) (by kernel_rfl) (fun _ h => by cases h) replyMakesUpto_row_tie rfl ⟨rfl, rfl⟩ (by kernel_rfl) rfl plain (by kernel_rfl)
#print axioms proved
end Go.Proofs.YtakldjdohgmeiaaDoor.replyMakes
