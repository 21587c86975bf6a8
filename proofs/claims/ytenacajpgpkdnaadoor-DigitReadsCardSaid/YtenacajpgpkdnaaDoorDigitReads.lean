/- pantrylaw01.DigitReads: at every word the law returns true. The two errors of the library stand as they were laid. -/
import Derived.Test.YtenacajpgpkdnaaDoorDigH
import Derived.Test.YtenacajpgpkdnaaDoorDoor
namespace Go.Proofs.YtenacajpgpkdnaaDoor.digitReads
open Go.ChangeShapes Go.WideShapes Go.ChangeAt Go.RowKit
open Go.ChangeMaps (open_string shut_string)

set_option maxRecDepth 20000 in
theorem walk (s : ByteArray) (hs : s.size ≤ 140737488351232) (w : World) (_hT : Mm.Tab w) (hE : Mm.Errs w) :
    Calls Tryd.prog 6 #[.string s] w fun e w' => e = .returned (.bool true) ∧ Below w.heap.size w w' := by
  have HE := Pl.hid hE
  clear hE _hT
  go_enter Tryd.func6, Tryd.ntmps6
  go_wp2_with fail
  refine (int_walk _ _ hs HE.out).mono ?_
  rintro e w1 ⟨rfl, hb⟩
  have H1 := Pl.hid hb
  clear hb
  go_wp2_with fail
  refine (refint_walk _ _ hs).mono ?_
  rintro e w2 ⟨rfl, rfl⟩
  go_wp2_with fail
  refine (uint_walk _ _ hs (HE.out.on H1.out)).mono ?_
  rintro e w2 ⟨rfl, hb⟩
  have H2 := Pl.hid (H1.out.trans (hb.mono H1.out.size))
  clear hb H1
  go_wp2_with fail
  refine (refuint_walk _ _ hs).mono ?_
  rintro e w3 ⟨rfl, rfl⟩
  go_wp2_with fail
  go_ret
  exact ⟨rfl, H2.out⟩

set_option maxRecDepth 100000 in
theorem lifted (os : Os) (started : os.Started) (H : Type) (enc : TypeId × Value → H) (F : Stop.Interp) :
    ReturnsInHanded {} Tryd.checked os 6 .any ((OpenSpec.ofChange Rows.digitReadsSpec).preRow enc Tryd.prog Tryd.f6 Rows.digitReadsRow.domain false Rows.digitReadsRow.laid)
      (((OpenSpec.ofChange Rows.digitReadsSpec).at F).post enc Tryd.prog Tryd.f6 false true false false) := by
  refine Fr.lifted (C := Tryd.checked) (s := (OpenSpec.ofChange Rows.digitReadsSpec)) (tb := 4) (by kernel_rfl) started (by kernel_rfl) Tryd.func6
    (Fr.witness_shaped (enc := enc) (C := Tryd.checked) (World.laidAll Tryd.prog os Rows.digitReadsRow.laid) #[.string .empty] (World.laidAll_os _ _ _) (World.shaped_of_ZipB (by kernel_rfl) (by kernel_rfl)) (by kernel_rfl)
      (OpenSpec.preRow_of_cond 8 (x := ([.lit (.string [])], [], [])) (by kernel_rfl) (by kernel_rfl) (fun k hk => by cases hk) (by kernel_rfl) (laidMet_laidAll _ (by kernel_rfl) (by kernel_rfl))))
    (by kernel_rfl) (by kernel_rfl) rfl rfl Tryd.underlying4 ?_ ?_
  · intro ds hd
    match ds, hd with
    | [d0], _ => rfl
  · intro W base args ds before hval hA hz hk hsz hL hsh
    rw [MakeChecks.laidMetH_plain _ _ _ (by kernel_rfl)] at hL
    have hT := Fr.tab hL
    have hE := Fr.errs hL.tail.tail.tail hL.tail.tail.tail.tail
    rw [Tryd.params6] at hval hA hsz
    obtain ⟨v0, vs0, d0, ds0, p0, q0, hargs, rfl, rfl, h0, r0⟩ := trodAll_cons hA
    obtain ⟨rfl, rfl, rfl⟩ := trodAll_nil r0
    obtain rfl : args = #[v0] := by cases args; simp_all
    obtain ⟨a0, rfl, rfl, rfl, w0⟩ := open_string Tryd.underlying9 (hval 0 9 v0 rfl rfl) h0
    have z0 := Fr.str_size (sized_string hsz (j := 0) (t := 9) rfl rfl)
    exact walk a0 z0 W hT hE

theorem said : Rows.DigitReadsSaid :=
  OpenClaim.holds_of_cond 6 Tryd.f6 rfl rfl rfl rfl rfl rfl rfl ⟨rfl, rfl, rfl, rfl, rfl⟩ rfl rfl rfl rfl rfl (by kernel_rfl) Tryd.func6 (by kernel_rfl)
    (of_decide_eq_true (by kernel_rfl)) (by unfold Func.isWrapper; first | (rw [if_pos (by decide +kernel)]; kernel_rfl) | (rw [if_neg (by decide +kernel)]; exact ⟨rfl, rfl⟩))
    (fun os started H enc _ F => by rw [OpenClaim.pre_eq_preRow]; exact lifted os started H enc F)

theorem plain (f : FuncId) (fn : Func) (hf : Tryd.pinned.checked.prog.funcNamed "pantry/pantrylaw01.DigitReads" = some f) (hfn : Tryd.pinned.checked.prog.funcs[f]? = some fn) :
    true = Tryd.pinned.checked.prog.looks [] ∧ ∀ (j : Nat) t, fn.params[j]? = some t → Tryd.pinned.checked.prog.wantsStandIn t = false := by
  obtain rfl : f = 6 := Option.some.inj ((show Tryd.prog.funcNamed "pantry/pantrylaw01.DigitReads" = some 6 by kernel_rfl).symm.trans hf) |>.symm
  obtain rfl : fn = Tryd.f6 := (Option.some.inj (Tryd.func6.symm.trans hfn)).symm
  refine ⟨by kernel_rfl, fun j t ht => ?_⟩
  rw [Tryd.params6] at ht
  have hm := Array.mem_of_getElem? ht
  have hall : ([9].all fun u => !Tryd.prog.wantsStandIn u) = true := by kernel_rfl
  have hm' : t ∈ ([9] : List TypeId) := by simpa using hm
  exact (show Tryd.prog.wantsStandIn t = false by simpa using List.all_eq_true.1 hall t hm')

/-- the statement: the tied card -/
theorem proved : Rows.DigitReadsCardSaid :=
  Claim7.holds_tied_plain_at .later [] _ _ _ _ said (fun _ h => by cases h) (by kernel_rfl) (fun _ h => by cases h) digitReads_row_tie rfl ⟨rfl, rfl⟩ (by kernel_rfl) rfl plain (by kernel_rfl)
#print axioms proved
end Go.Proofs.YtenacajpgpkdnaaDoor.digitReads
