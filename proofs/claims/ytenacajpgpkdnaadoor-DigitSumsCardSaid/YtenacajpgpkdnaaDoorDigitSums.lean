/- pantrylaw01.DigitSums: at every two numbers the law returns true. The table of powers and the two errors of the library stand as they were laid. -/
import Derived.Test.YtenacajpgpkdnaaDoorDigJ
import Derived.Test.YtenacajpgpkdnaaDoorDoor
namespace Go.Proofs.YtenacajpgpkdnaaDoor.digitSums
open Go.ChangeShapes Go.WideShapes Go.ChangeAt Go.RowKit

set_option maxRecDepth 20000 in
theorem walk (a b : Int) (ha : Pl.In64 a) (hb : Pl.In64 b) (w : World) (hT : Mm.Tab w) (hE : Mm.Errs w) :
    Calls Tryd.prog 10 #[.int .i64 a, .int .i64 b] w fun e w' => e = .returned (.bool true) ∧ Below w.heap.size w w' := by
  have HE := Pl.hid hE
  have HT := Pl.hid hT
  have HA := Pl.hid ha
  have HB := Pl.hid hb
  obtain ⟨S, hS⟩ : ∃ S, wrap64 (a + b) = S := ⟨_, rfl⟩
  have hW := hS
  unfold wrap64 at hW
  have HC : Hid (b + a = a + b) := Int.add_comm _ _
  clear hE hT ha hb
  by_cases h : Pl.In64 (a + b)
  · have HV : Hid (Pl.addV a b = S ∧ Pl.addC a b = 0) := by
      refine ⟨?_, Pl.addC_in h⟩
      rw [Pl.addV_in h, ← hS, IntWalk.wrap64_in _ h]
    have HV' : Hid (Pl.addV b a = S ∧ Pl.addC b a = 0) := by
      have h' : Pl.In64 (b + a) := by rw [HC.out]; exact h
      refine ⟨?_, Pl.addC_in h'⟩
      rw [Pl.addV_in h', HC.out, ← hS, IntWalk.wrap64_in _ h]
    have hs : S = a + b := by rw [← hS, IntWalk.wrap64_in _ h]
    have h1 : ¬ (0 ≤ a ∧ 0 ≤ b ∧ S < 0) := by omega
    have h2 : ¬ (a < 0 ∧ b < 0 ∧ 0 ≤ S) := by omega
    clear h hs hW
    go_enter Tryd.func10, Tryd.ntmps10
    go_wp2_with fail
    refine (wakes01_walk _ HT.out HE.out).mono ?_
    rintro e w1 ⟨rfl, hb⟩
    have H1 := Pl.hid hb
    clear hb
    go_wp2_with fail
    refine (add_known _ HA.out HB.out HV.out.1 HV.out.2).mono ?_
    rintro e w2 ⟨rfl, rfl⟩
    go_wp2_with fail
    refine (add_known _ HB.out HA.out HV'.out.1 HV'.out.2).mono ?_
    rintro e w3 ⟨rfl, rfl⟩
    rcases Int.lt_or_le a 0 with ha | ha <;> rcases Int.lt_or_le b 0 with hb | hb <;> rcases Int.lt_or_le S 0 with hc | hc
    all_goals first | (exfalso; omega) | skip
    all_goals clear h1 h2
    all_goals go_wp2_with fail
    all_goals go_ret
    all_goals exact ⟨rfl, H1.out⟩
  · have HV : Hid (Pl.addV a b = 0 ∧ Pl.addC a b = 11) := ⟨Pl.addV_out h, Pl.addC_out h⟩
    have HV' : Hid (Pl.addV b a = 0 ∧ Pl.addC b a = 11) := by
      have h' : ¬ Pl.In64 (b + a) := by rw [HC.out]; exact h
      exact ⟨Pl.addV_out h', Pl.addC_out h'⟩
    have h0 : (0 ≤ a ∧ 0 ≤ b ∧ S < 0) ∨ (a < 0 ∧ b < 0 ∧ 0 ≤ S) := by
      obtain ⟨a1, a2⟩ := HA.out
      obtain ⟨b1, b2⟩ := HB.out
      unfold Pl.In64 at h
      omega
    clear h hW
    rcases h0 with ⟨ha, hb, hc⟩ | ⟨ha, hb, hc⟩
    all_goals
      go_enter Tryd.func10, Tryd.ntmps10
      go_wp2_with fail
      refine (wakes01_walk _ HT.out HE.out).mono ?_
      rintro e w1 ⟨rfl, hb⟩
      have H1 := Pl.hid hb
      clear hb
      go_wp2_with fail
      refine (add_known _ HA.out HB.out HV.out.1 HV.out.2).mono ?_
      rintro e w2 ⟨rfl, rfl⟩
      go_wp2_with fail
      refine (add_known _ HB.out HA.out HV'.out.1 HV'.out.2).mono ?_
      rintro e w3 ⟨rfl, rfl⟩
      go_wp2_with fail
      go_ret
      exact ⟨rfl, H1.out⟩

set_option maxRecDepth 100000 in
theorem lifted (os : Os) (started : os.Started) (H : Type) (enc : TypeId × Value → H) (F : Stop.Interp) :
    ReturnsInHanded {} Tryd.checked os 10 .any ((OpenSpec.ofChange Rows.digitSumsSpec).preRow enc Tryd.prog Tryd.f10 Rows.digitSumsRow.domain false Rows.digitSumsRow.laid)
      (((OpenSpec.ofChange Rows.digitSumsSpec).at F).post enc Tryd.prog Tryd.f10 false true false false) := by
  refine Fr.lifted (C := Tryd.checked) (s := (OpenSpec.ofChange Rows.digitSumsSpec)) (tb := 4) (by kernel_rfl) started (by kernel_rfl) Tryd.func10
    (Fr.witness_shaped (enc := enc) (C := Tryd.checked) (World.laidAll Tryd.prog os Rows.digitSumsRow.laid) #[.int .i64 0, .int .i64 0] (World.laidAll_os _ _ _) (World.shaped_of_ZipB (by kernel_rfl) (by kernel_rfl)) (by kernel_rfl)
      (OpenSpec.preRow_of_cond 8 (x := ([.lit (.int .i64 0), .lit (.int .i64 0)], [], [])) (by kernel_rfl) (by kernel_rfl) (fun k hk => by cases hk) (by kernel_rfl) (laidMet_laidAll _ (by kernel_rfl) (by kernel_rfl))))
    (by kernel_rfl) (by kernel_rfl) rfl rfl Tryd.underlying4 ?_ ?_
  · intro ds hd
    match ds, hd with
    | [d0, d1], _ => rfl
  · intro W base args ds before hval hA hz hk hsz hL hsh
    rw [MakeChecks.laidMetH_plain _ _ _ (by kernel_rfl)] at hL
    have hT := Fr.tab hL
    have hE := Fr.errs hL.tail.tail.tail hL.tail.tail.tail.tail
    rw [Tryd.params10] at hval hA hsz
    obtain ⟨v0, vs0, d0, ds0, p0, q0, hargs, rfl, rfl, h0, r0⟩ := trodAll_cons hA
    obtain ⟨v1, vs1, d1, ds1, p1, q1, rfl, rfl, rfl, h1, r1⟩ := trodAll_cons r0
    obtain ⟨rfl, rfl, rfl⟩ := trodAll_nil r1
    obtain rfl : args = #[v0, v1] := by cases args; simp_all
    obtain ⟨a0, rfl, rfl, rfl, w0⟩ := open_int Tryd.underlying2 (hval 0 2 v0 rfl rfl) h0
    obtain ⟨a1, rfl, rfl, rfl, w1⟩ := open_int Tryd.underlying2 (hval 1 2 v1 rfl rfl) h1
    exact walk a0 a1 (bounds_i64 w0) (bounds_i64 w1) W hT hE

theorem said : Rows.DigitSumsSaid :=
  OpenClaim.holds_of_cond 10 Tryd.f10 rfl rfl rfl rfl rfl rfl rfl ⟨rfl, rfl, rfl, rfl, rfl⟩ rfl rfl rfl rfl rfl (by kernel_rfl) Tryd.func10 (by kernel_rfl)
    (of_decide_eq_true (by kernel_rfl)) (by unfold Func.isWrapper; first | (rw [if_pos (by decide +kernel)]; kernel_rfl) | (rw [if_neg (by decide +kernel)]; exact ⟨rfl, rfl⟩))
    (fun os started H enc _ F => by rw [OpenClaim.pre_eq_preRow]; exact lifted os started H enc F)

theorem plain (f : FuncId) (fn : Func) (hf : Tryd.pinned.checked.prog.funcNamed "pantry/pantrylaw01.DigitSums" = some f) (hfn : Tryd.pinned.checked.prog.funcs[f]? = some fn) :
    true = Tryd.pinned.checked.prog.looks [] ∧ ∀ (j : Nat) t, fn.params[j]? = some t → Tryd.pinned.checked.prog.wantsStandIn t = false := by
  obtain rfl : f = 10 := Option.some.inj ((show Tryd.prog.funcNamed "pantry/pantrylaw01.DigitSums" = some 10 by kernel_rfl).symm.trans hf) |>.symm
  obtain rfl : fn = Tryd.f10 := (Option.some.inj (Tryd.func10.symm.trans hfn)).symm
  refine ⟨by kernel_rfl, fun j t ht => ?_⟩
  rw [Tryd.params10] at ht
  have hm := Array.mem_of_getElem? ht
  have hall : ([2, 2].all fun u => !Tryd.prog.wantsStandIn u) = true := by kernel_rfl
  have hm' : t ∈ ([2, 2] : List TypeId) := by simpa using hm
  exact (show Tryd.prog.wantsStandIn t = false by simpa using List.all_eq_true.1 hall t hm')

/-- the statement: the tied card -/
theorem proved : Rows.DigitSumsCardSaid :=
  Claim7.holds_tied_plain_at .later [] _ _ _ _ said (fun _ h => by cases h) (by kernel_rfl) (fun _ h => by cases h) digitSums_row_tie rfl ⟨rfl, rfl⟩ (by kernel_rfl) rfl plain (by kernel_rfl)
#print axioms proved
end Go.Proofs.YtenacajpgpkdnaaDoor.digitSums
