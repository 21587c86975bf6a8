/- pantrylaw30.WireNil: at every step the law returns true. The listed variables stand as they were laid; none of them is read on this road. -/
import Derived.Test.YtijjodhkfpjihaaGreatDoorWirH
import Derived.Test.YtijjodhkfpjihaaGreatDoorCards
import Derived.Test.YtijjodhkfpjihaaGreatDoorTie
import Derived.Test.YtijjodhkfpjihaaGreatDoorWirI
import Derived.Test.YtijjodhkfpjihaaGreatDoorShaped
import Derived.Lay
import Derived.MakeChecks
import Derived.Lib.SlBytesConst
namespace Go.Proofs.YtijjodhkfpjihaaGreatDoor.wireNil
open Go.ChangeShapes Go.WideShapes Go.ChangeAt Go.RowKit
open Go.ChangeMaps (open_string shut_string)
set_option maxRecDepth 20000

theorem walk (f : Nat) (d who k n : Int) (bv lv : Value) (tx : ByteArray) (l : List UInt8) (W : World) (hl : l.length ≤ 140737488351232) (hb : Mm.BytesV W bv l) (hr : Mm.RepOK W f [.int .i64 k, .string tx, .int .i64 n, lv]) :
    Calls Tryz.prog 3 #[.agg #[.int .i64 d, .int .i64 who, bv, .int .i64 k, .string tx, .int .i64 n, lv]] W fun e w' => e = .returned (.bool true) ∧ Below W.heap.size W w' := by
  have HV := Pl.hid hb
  have HRep := Pl.hid hr
  clear hb hr
  obtain ⟨w0, hw0⟩ : ∃ w0, w0 = W.alloc (.cells #[.int .i64 d, .int .i64 who, bv, .int .i64 k, .string tx, .int .i64 n, lv] 27) := ⟨_, rfl⟩
  have HB0 : Hid (Below W.heap.size W w0) := by rw [hw0]; exact (Below.refl _ _).alloc (Nat.le_refl _) _
  have HS0 : Hid (w0.heap.size = W.heap.size + 1) := by show _ = _; rw [hw0]; simp
  have HCC : Hid (∀ (V : World), Below w0.heap.size w0 V → V.cell? ⟨W.heap.size, 0, none⟩ = some (.int .i64 d) ∧ V.cell? ⟨W.heap.size, 1, none⟩ = some (.int .i64 who) ∧ V.cell? ⟨W.heap.size, 2, none⟩ = some bv ∧ V.cell? ⟨W.heap.size, 3, none⟩ = some (.int .i64 k) ∧ V.cell? ⟨W.heap.size, 4, none⟩ = some (.string tx) ∧ V.cell? ⟨W.heap.size, 5, none⟩ = some (.int .i64 n) ∧ V.cell? ⟨W.heap.size, 6, none⟩ = some lv) := fun V hV => by
    have key : ∀ i v, w0.cell? ⟨W.heap.size, i, none⟩ = some v → V.cell? ⟨W.heap.size, i, none⟩ = some v := fun i v h =>
      (hV.cell (p := ⟨W.heap.size, i, none⟩) (by rw [HS0.out]; exact Nat.lt_succ_self _)).trans h
    refine ⟨key _ _ ?_, key _ _ ?_, key _ _ ?_, key _ _ ?_, key _ _ ?_, key _ _ ?_, key _ _ ?_⟩ <;> (rw [hw0, World.cell?_alloc_mark]; rfl)
  have HW0 := Pl.hid hw0
  clear hw0
  go_enter Tryz.func3, Tryz.ntmps3
  go_wp2_with fail
  rw [← HW0.out]
  refine (wnew_walk w0).mono ?_
  rintro e w1 ⟨rfl, hwf, hpf, hz1, hb1⟩
  obtain ⟨p, hp⟩ : ∃ p, p = w0.heap.size := ⟨_, rfl⟩
  obtain ⟨q, hq⟩ : ∃ q, q = w0.heap.size + 1 := ⟨_, rfl⟩
  rw [← hq, ← hp] at hwf
  rw [← hp] at hpf
  rw [← hq]
  have HPQ : Hid (q ≠ p ∧ w0.heap.size ≤ p) := ⟨by omega, by omega⟩
  have HWF := Pl.hid hwf
  have HPF := Pl.hid hpf
  have H1 := Pl.hid hb1
  clear hwf hpf hz1 hb1 hp hq
  have HA := Pl.hid ((Below.refl w1.heap.size w1).alloc (Nat.le_refl _) (.cells #[.int .u8 80, .int .u8 73, .int .u8 78, .int .u8 71, .int .u8 10] 5 (5, 6)))
  have HBA : Hid (Mm.BytesAt (w1.alloc (.cells #[.int .u8 80, .int .u8 73, .int .u8 78, .int .u8 71, .int .u8 10] 5 (5, 6))) w1.heap.size 0 Pl.pingL) := fun j hj => by
    rw [World.cell?_alloc_mark]
    match j, hj with
    | 0, _ => rfl
    | 1, _ => rfl
    | 2, _ => rfl
    | 3, _ => rfl
    | 4, _ => rfl
  have hcv : (convert 22 22 (.slice (some ⟨w1.heap.size, 0, none⟩) 5 5)).run Tryz.prog (w1.alloc (.cells #[.int .u8 80, .int .u8 73, .int .u8 78, .int .u8 71, .int .u8 10] 5)) = .ok (.slice (some ⟨w1.heap.size, 0, none⟩) 5 5) (w1.alloc (.cells #[.int .u8 80, .int .u8 73, .int .u8 78, .int .u8 71, .int .u8 10] 5 (5, 6))) :=
    Lib.run_convert_bytes_const w1 22 5 _ 5 5 Tryz.underlying22 Tryz.underlying5
  go_wp2_with fail
  refine (wfeed_ping q p w1.heap.size 5 _ ((HA.out.block q (Array.getElem?_eq_some_iff.1 HWF.out).1).trans HWF.out) HPQ.out.1 HBA.out (HPF.out.below HA.out)).mono ?_
  rintro e w2 ⟨rfl, pv, hread, hwf2⟩
  have HR2 := Pl.hid hread
  have HWF2 := Pl.hid hwf2
  have H2 : Hid (Below w0.heap.size w0 w2) := by
    obtain ⟨gr, cr, wv, k1, k2, k3, k4, k5, k6⟩ := HR2.out
    exact (H1.out.trans (HA.out.mono H1.out.size)).grown k5 (Nat.le_trans H1.out.size HA.out.size) (fun i hi => by injection hi with hi; rw [← hi]; exact HPQ.out.2)
  clear hread hwf2
  go_wp2_with fail
  refine (wnext_ping _ q p pv w2 HWF2.out HR2.out).mono ?_
  rintro e w3 ⟨⟨wv, b3, rfl, hown⟩, hg3⟩
  have HO3 := Pl.hid hown
  have H3 : Hid (Below w0.heap.size w0 w3) := H2.out.grown hg3 H2.out.size (fun i hi => by injection hi with hi; rw [← hi]; exact HPQ.out.2)
  obtain ⟨p0, p1, p2, p3, p4, p5, p6⟩ := HCC.out w3 H3.out
  clear hown hg3
  go_wp2_with fail
  refine (bounded_walk f _ _ _ _ _ rfl W w3 HRep.out (HB0.out.trans (H3.out.mono HB0.out.size))).mono ?_
  rintro e w4 ⟨⟨b, rfl⟩, hb4⟩
  have H4 := Pl.hid (H3.out.trans (hb4.mono H3.out.size))
  have HO4 := Pl.hid (HO3.out.below hb4)
  clear hb4 p0 p1 p2 p3 p4 p5 p6
  obtain ⟨p0, p1, p2, p3, p4, p5, p6⟩ := HCC.out w4 H4.out
  cases b with
  | false =>
    have HA4 := Pl.hid ((Below.refl w4.heap.size w4).alloc (Nat.le_refl _) (.cells #[.string ⟨#[80, 73, 78, 71]⟩] 9))
    have HO5 := Pl.hid (HO4.out.below HA4.out)
    have HC5 : Hid ((w4.alloc (.cells #[.string ⟨#[80, 73, 78, 71]⟩] 9)).cell? ⟨w4.heap.size, 0, none⟩ = some (.string ⟨#[80, 73, 78, 71]⟩)) := by show _ = _; rw [World.cell?_alloc_mark]; rfl
    go_wp2_with fail
    refine (same_ping wv b3 w4.heap.size _ HO5.out HC5.out).mono ?_
    rintro e w6 ⟨rfl, hb6⟩
    have H6 := Pl.hid ((H4.out.trans (HA4.out.mono H4.out.size)).trans (hb6.mono (Nat.le_trans H4.out.size HA4.out.size)))
    clear hb6
    go_wp2_with fail
    go_ret
    exact ⟨rfl, HB0.out.trans (H6.out.mono HB0.out.size)⟩
  | true =>
    have HV4 := Pl.hid (HV.out.below (HB0.out.trans (H4.out.mono HB0.out.size)))
    go_wp2_with fail
    refine (stepped_walk d who k n bv lv tx l w4 hl HV4.out).mono ?_
    rintro e w5 ⟨rfl, hb5⟩
    have H5 := Pl.hid (H4.out.trans (hb5.mono H4.out.size))
    have HO5 := Pl.hid (HO4.out.below hb5)
    clear hb5
    have HA5 := Pl.hid ((Below.refl w5.heap.size w5).alloc (Nat.le_refl _) (.cells #[.string ⟨#[80, 73, 78, 71]⟩] 9))
    have HO6 := Pl.hid (HO5.out.below HA5.out)
    have HC6 : Hid ((w5.alloc (.cells #[.string ⟨#[80, 73, 78, 71]⟩] 9)).cell? ⟨w5.heap.size, 0, none⟩ = some (.string ⟨#[80, 73, 78, 71]⟩)) := by show _ = _; rw [World.cell?_alloc_mark]; rfl
    go_wp2_with fail
    refine (same_ping wv b3 w5.heap.size _ HO6.out HC6.out).mono ?_
    rintro e w6 ⟨rfl, hb6⟩
    have H6 := Pl.hid ((H5.out.trans (HA5.out.mono H5.out.size)).trans (hb6.mono (Nat.le_trans H5.out.size HA5.out.size)))
    clear hb6
    go_wp2_with fail
    go_ret
    exact ⟨rfl, HB0.out.trans (H6.out.mono HB0.out.size)⟩

set_option maxRecDepth 100000 in
theorem lifted (os : Os) (started : os.Started) (H : Type) (enc : TypeId × Value → H) (F : Stop.Interp) :
    ReturnsInHanded {} Tryz.checked os 3 .any ((OpenSpec.ofChange Rows.wireNilSpec).preRow enc Tryz.prog Tryz.f3 Rows.wireNilRow.domain false Rows.wireNilRow.laid)
      (((OpenSpec.ofChange Rows.wireNilSpec).at F).post enc Tryz.prog Tryz.f3 false true false false) := by
  refine Fr.lifted (C := Tryz.checked) (s := (OpenSpec.ofChange Rows.wireNilSpec)) (tb := 4) (by kernel_rfl) started (by kernel_rfl) Tryz.func3
    (Fr.witness_shaped (enc := enc) (C := Tryz.checked) (World.laidAll Tryz.prog os Rows.wireNilRow.laid) #[.agg #[.int .i64 0, .int .i64 0, .slice none 0 0, .int .i64 0, .string .empty, .int .i64 0, .slice none 0 0]] (World.laidAll_os _ _ _) (World.shaped_of_ZipB (by kernel_rfl) (by kernel_rfl)) (by kernel_rfl)
      (OpenSpec.preRow_of_cond 8 (x := ([.agg [.lit (.int .i64 0), .lit (.int .i64 0), .nil, .agg [.lit (.int .i64 0), .lit (.string []), .lit (.int .i64 0), .nil]]], [], [])) (by kernel_rfl) (by kernel_rfl) (fun k hk => by cases hk) (by kernel_rfl) (laidMet_laidAll _ (by kernel_rfl) (by kernel_rfl))))
    (by kernel_rfl) (by kernel_rfl) rfl rfl Tryz.underlying4 ?_ ?_
  · intro ds hd
    match ds, hd with
    | [d0], _ => rfl
  · intro W base args ds before hval hA hz hk hsz hL hsh
    rw [Tryz.params3] at hval hA hsz
    obtain ⟨v0, vs0, d0, ds0, p0, q0, hargs, rfl, rfl, h0, r0⟩ := trodAll_cons hA
    obtain ⟨rfl, rfl, rfl⟩ := trodAll_nil r0
    obtain rfl : args = #[v0] := by cases args; simp_all
    obtain ⟨z, who, k, n, bv, lv, tx, l, f, rfl, hl, hb, hr⟩ := Mm.step_of_trod (hval 0 27 v0 rfl rfl) h0 (by
      have : DataW.weightsEach Tryz.prog [27] [d0] = d0.weights Tryz.prog 27 := by simp [DataW.weightsEach]
      rw [← this]
      exact hsz)
    exact walk f z who k n bv lv tx l W hl hb hr

theorem said : Rows.WireNilSaid :=
  OpenClaim.holds_of_cond 3 Tryz.f3 rfl rfl rfl rfl rfl rfl rfl ⟨rfl, rfl, rfl, rfl, rfl⟩ rfl rfl rfl rfl rfl (by kernel_rfl) Tryz.func3 (by kernel_rfl)
    (of_decide_eq_true (by kernel_rfl)) (by unfold Func.isWrapper; first | (rw [if_pos (by decide +kernel)]; kernel_rfl) | (rw [if_neg (by decide +kernel)]; exact ⟨rfl, rfl⟩))
    (fun os started H enc _ F => by rw [OpenClaim.pre_eq_preRow]; exact lifted os started H enc F)

theorem plain (f : FuncId) (fn : Func) (hf : Tryz.pinned.checked.prog.funcNamed "pantry/pantrylaw30.WireNil" = some f) (hfn : Tryz.pinned.checked.prog.funcs[f]? = some fn) :
    true = Tryz.pinned.checked.prog.looks [] ∧ ∀ (j : Nat) t, fn.params[j]? = some t → Tryz.pinned.checked.prog.wantsStandIn t = false := by
  obtain rfl : f = 3 := Option.some.inj ((show Tryz.prog.funcNamed "pantry/pantrylaw30.WireNil" = some 3 by kernel_rfl).symm.trans hf) |>.symm
  obtain rfl : fn = Tryz.f3 := (Option.some.inj (Tryz.func3.symm.trans hfn)).symm
  refine ⟨by kernel_rfl, fun j t ht => ?_⟩
  rw [Tryz.params3] at ht
  have hm := Array.mem_of_getElem? ht
  have hall : ([27].all fun u => !Tryz.prog.wantsStandIn u) = true := by kernel_rfl
  have hm' : t ∈ ([27] : List TypeId) := by simpa using hm
  exact (show Tryz.prog.wantsStandIn t = false by simpa using List.all_eq_true.1 hall t hm')

/-- the statement: the tied card -/
theorem proved : Rows.WireNilCardSaid :=
  Claim7.holds_tied_plain_at .later [] _ _ _ _ said (fun _ h => by cases h) (by kernel_rfl) (fun _ h => by cases h) wireNil_row_tie rfl ⟨rfl, rfl⟩ (by kernel_rfl) rfl plain (by kernel_rfl)
#print axioms proved
end Go.Proofs.YtijjodhkfpjihaaGreatDoor.wireNil
