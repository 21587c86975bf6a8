/- Contract of the law's stepped, of two wires that are not there: true, whatever the step. Conditions stand in the law. -/
import Derived.Test.YtijjodhkfpjihaaGreatDoorWirB
import Derived.Test.YtijjodhkfpjihaaGreatDoorWirD
namespace Go.Proofs.YtijjodhkfpjihaaGreatDoor
open Go.RowKit
set_option maxRecDepth 20000

/-- two rows of no text are the same -/
theorem same_nil (w : World) : Calls Tryz.prog 9 #[.slice none 0 0, .slice none 0 0] w fun e w' => e = .returned (.bool true) ∧ Below w.heap.size w w' := by
  go_enter Tryz.func9, Tryz.ntmps9
  go_wp2_with fail
  go_loop [5] (fun iv => iv = .int .i64 0) (fun iv => 1 - (intOf iv).toNat)
  case atStart => rfl
  case round =>
    obtain rfl := hrel
    go_wp2_with fail
    go_ret
    exact ⟨rfl, Below.refl _ _⟩

set_option maxHeartbeats 8000000 in
theorem stepped_walk (d who k n : Int) (bv lv : Value) (tx : ByteArray) (l : List UInt8) (w : World) (hl : l.length ≤ 140737488351232) (hb : Mm.BytesV w bv l) :
    Calls Tryz.prog 8 #[.pointer none, .pointer none, .agg #[.int .i64 d, .int .i64 who, bv, .int .i64 k, .string tx, .int .i64 n, lv]] w fun e w' => e = .returned (.bool true) ∧ Below w.heap.size w w' := by
  have HV := Pl.hid hb
  clear hb
  have hw0 : ∃ w0, w0 = w.alloc (.cells #[.int .i64 d, .int .i64 who, bv, .int .i64 k, .string tx, .int .i64 n, lv] 27) := ⟨_, rfl⟩
  obtain ⟨w0, hw0⟩ := hw0
  have HB0 : Hid (Below w.heap.size w w0) := by rw [hw0]; exact (Below.refl _ _).alloc (Nat.le_refl _) _
  have HS0 : Hid (w0.heap.size = w.heap.size + 1) := by show _ = _; rw [hw0]; simp
  have HCC : Hid (∀ (W : World), Below w0.heap.size w0 W → W.cell? ⟨w.heap.size, 0, none⟩ = some (.int .i64 d) ∧ W.cell? ⟨w.heap.size, 2, none⟩ = some bv ∧ W.cell? ⟨w.heap.size, 3, none⟩ = some (.int .i64 k) ∧ W.cell? ⟨w.heap.size, 4, none⟩ = some (.string tx) ∧ W.cell? ⟨w.heap.size, 5, none⟩ = some (.int .i64 n) ∧ W.cell? ⟨w.heap.size, 6, none⟩ = some lv) := fun W hW => by
    have key : ∀ i v, w0.cell? ⟨w.heap.size, i, none⟩ = some v → W.cell? ⟨w.heap.size, i, none⟩ = some v := fun i v h =>
      (hW.cell (p := ⟨w.heap.size, i, none⟩) (by rw [HS0.out]; exact Nat.lt_succ_self _)).trans h
    refine ⟨key _ _ ?_, key _ _ ?_, key _ _ ?_, key _ _ ?_, key _ _ ?_, key _ _ ?_⟩ <;> (rw [hw0, World.cell?_alloc_mark]; rfl)
  have HV0 := Pl.hid (HV.out.below HB0.out)
  have hc0 := HCC.out w0 (Below.refl _ _)
  obtain ⟨q0, q2, q3, q4, q5, q6⟩ := hc0
  have HW0 := Pl.hid hw0
  clear hw0
  rcases (by omega : d = 0 ∨ d = 1 ∨ d = 2 ∨ d = 3 ∨ d = 4 ∨ (d ≠ 0 ∧ d ≠ 1 ∧ d ≠ 2 ∧ d ≠ 3 ∧ d ≠ 4)) with rfl | rfl | rfl | rfl | rfl | ⟨n0, n1, n2, n3, n4⟩
  · skip
    go_enter Tryz.func8, Tryz.ntmps8
    go_wp2_with (fail)
    rw [← HW0.out]
    refine (roomy_walk _ l _ hl HV0.out).mono ?_
    rintro e w1 ⟨g, cap, rfl, hcap, hown, hb1⟩
    have HO1 := Pl.hid hown
    have H1 := Pl.hid hb1
    obtain ⟨p0, p2, p3, p4, p5, p6⟩ := HCC.out w1 hb1
    have HV1 := Pl.hid (HV0.out.below hb1)
    clear hown hb1
    go_wp2_with fail
    refine (wfeed_nil _ _).mono ?_
    rintro e v1 ⟨rfl, rfl⟩
    go_wp2_with fail
    refine (rfeed_nil _ _).mono ?_
    rintro e v1 ⟨rfl, rfl⟩
    go_wp2_with fail
    refine (kept_walk _ l _ _ _ _ hl hcap HV1.out HO1.out).mono ?_
    rintro e w2 ⟨rfl, hb2⟩
    have H2 := Pl.hid (H1.out.trans (hb2.mono H1.out.size))
    have HO2 := Pl.hid (HO1.out.kept hb2)
    clear hb2 p0 p2 p3 p4 p5 p6
    go_wp2_with fail
    obtain ⟨m, hm⟩ : ∃ m, m = l.length := ⟨_, rfl⟩
    have HBk : Hid ((∃ cur, w2.heap[g]? = some (.cells cur 5 (0, 0)) ∧ m ≤ cur.size) ∧ w0.heap.size ≤ g) := by
      rcases HO2.out.2 with ⟨h0, _⟩ | ⟨g', c', cur, hv, hg, hh, hle, _, hcs, _⟩
      · cases h0
      · injection hv with h1 h2 h3
        injection h1 with h1
        injection h1 with h1
        subst h1
        simp at hle
        exact ⟨⟨cur, hh, by rw [hcs, hm]; omega⟩, hg⟩
    rw [← hm]
    have hl' : m ≤ 140737488351232 := by rw [hm]; exact hl
    have hcap' : m + 2 ≤ cap := by rw [hm]; exact hcap
    have HM := Pl.hid hm
    clear hm hl hcap
    go_loopw [9] (fun iv wr => ∃ (i : Nat) (cur : Array Value), iv = .int .i64 i ∧ i ≤ m ∧ m ≤ cur.size ∧ Hid (wr.heap[g]? = some (.cells cur 5 (0, 0))) ∧ Hid (Below w0.heap.size w0 wr)) (fun iv _ => m - (intOf iv).toNat)
    case atStart =>
      obtain ⟨⟨cur, h1, h2⟩, _⟩ := HBk.out
      exact ⟨0, cur, rfl, Nat.zero_le _, h2, h1, H2.out⟩
    case round =>
      obtain ⟨i, cur, rfl, hi, hcur, HH, HR⟩ := hrel
      rcases Nat.lt_or_ge i m with hlt | hge
      · have hic : i < cur.size := by omega
        go_wp2_with (first | (refine Mm.wp_storeF _ rfl 5 _ _ (by rfl) (by kernel_rfl) g i 5 cur (.int .u8 7) HH.out (by rfl) (by rfl) hic rfl rfl ?_; intro w3 h3 hz3 hg3))
        have H3 := Pl.hid h3
        have HB3 := Pl.hid (HR.out.grown hg3 HR.out.size (fun k hk => by injection hk with hk; subst hk; exact HBk.out.2))
        clear h3 hz3 hg3
        go_roundw
        case rel => exact ⟨i + 1, _, by go_num, by omega, by simp; exact hcur, H3, HB3⟩
        case measure => simp [intOf]; omega
      · go_wp2_with fail
        refine (wclosed_nil _).mono ?_
        rintro e v1 ⟨rfl, rfl⟩
        go_wp2_with fail
        refine (rclosed_nil _).mono ?_
        rintro e v2 ⟨rfl, rfl⟩
        go_wp2_with fail
        refine (wbroken_nil _).mono ?_
        rintro e v3 ⟨rfl, rfl⟩
        go_wp2_with fail
        refine (rbroken_nil _).mono ?_
        rintro e v4 ⟨rfl, rfl⟩
        go_wp2_with fail
        go_ret
        exact ⟨rfl, HB0.out.trans (HR.out.mono HB0.out.size)⟩
  · skip
    go_enter Tryz.func8, Tryz.ntmps8
    go_wp2_with (fail)
    rw [← HW0.out]
    refine (wnext_nil _).mono ?_
    rintro e v1 ⟨rfl, rfl⟩
    go_wp2_with fail
    refine (rnext_nil _).mono ?_
    rintro e v1 ⟨rfl, rfl⟩
    go_wp2_with fail
    refine (same_nil _).mono ?_
    rintro e w1 ⟨rfl, hb1⟩
    have H1 := Pl.hid hb1
    clear hb1
    go_wp2_with fail
    go_loop [14] (fun iv => iv = .int .i64 0) (fun iv => 1 - (intOf iv).toNat)
    case atStart => rfl
    case round =>
      obtain rfl := hrel
      go_wp2_with fail
      go_loopw [10, 15] (fun av iv wr => ∃ (i : Nat) (L : List (List UInt8)), iv = .int .i64 i ∧ i ≤ 20 ∧ Hid (L.length = i) ∧ Hid (Mm.OwnS wr w0.heap.size av L) ∧ Hid (Below w0.heap.size w0 wr)) (fun _ iv _ => 20 - (intOf iv).toNat)
      case atStart => exact ⟨0, [], rfl, by decide, rfl, Mm.ownS_nil _ _, H1⟩
      case round =>
        obtain ⟨i, L, rfl, hi, HL, HO, HR⟩ := hrel
        rcases Nat.lt_or_ge i 20 with hlt | hge
        · have hLl : L.length < 8796093022208 := by rw [HL.out]; omega
          go_wp2_with (at_builtin; refine Mm.wp_app1S _ rfl _ _ (by rfl) w0.heap.size _ L (⟨#[33]⟩) (by rfl) (by rfl) HO.out hLl HR.out.size ?_; intro v2 w2 hown2 hb2)
          have HO2 := Pl.hid hown2
          have HB2 := Pl.hid (HR.out.trans hb2)
          clear hown2 hb2
          go_roundw
          case rel => exact ⟨i + 1, L ++ [Pl.L ⟨#[33]⟩], by go_num, by omega, (show _ = _ by rw [List.length_append, HL.out]; rfl), HO2, HB2⟩
          case measure => simp [intOf]; omega
        · obtain rfl : i = 20 := by omega
          obtain ⟨av, cv, rfl, hval⟩ := HO.out.val
          rw [HL.out]
          clear hval
          go_wp2_with fail
          refine (wclosed_nil _).mono ?_
          rintro e v1 ⟨rfl, rfl⟩
          go_wp2_with fail
          refine (rclosed_nil _).mono ?_
          rintro e v2 ⟨rfl, rfl⟩
          go_wp2_with fail
          refine (wbroken_nil _).mono ?_
          rintro e v3 ⟨rfl, rfl⟩
          go_wp2_with fail
          refine (rbroken_nil _).mono ?_
          rintro e v4 ⟨rfl, rfl⟩
          go_wp2_with fail
          go_ret
          exact ⟨rfl, HB0.out.trans (HR.out.mono HB0.out.size)⟩
  · skip
    go_enter Tryz.func8, Tryz.ntmps8
    go_wp2_with (fail)
    rw [← HW0.out]
    refine (wsend_nil _ _ _ _ _).mono ?_
    rintro e w1 ⟨rfl, hb1⟩
    have H1 := Pl.hid hb1
    obtain ⟨p0, p2, p3, p4, p5, p6⟩ := HCC.out w1 hb1
    clear hb1
    go_wp2_with fail
    refine (rsend_nil _ _ _ _ _).mono ?_
    rintro e w2 ⟨rfl, hb2⟩
    have H2 := Pl.hid (H1.out.trans (hb2.mono H1.out.size))
    clear hb2
    go_wp2_with fail
    refine (wclosed_nil _).mono ?_
    rintro e v1 ⟨rfl, rfl⟩
    go_wp2_with fail
    refine (rclosed_nil _).mono ?_
    rintro e v2 ⟨rfl, rfl⟩
    go_wp2_with fail
    refine (wbroken_nil _).mono ?_
    rintro e v3 ⟨rfl, rfl⟩
    go_wp2_with fail
    refine (rbroken_nil _).mono ?_
    rintro e v4 ⟨rfl, rfl⟩
    go_wp2_with fail
    go_ret
    exact ⟨rfl, HB0.out.trans (H2.out.mono HB0.out.size)⟩
  · skip
    go_enter Tryz.func8, Tryz.ntmps8
    go_wp2_with (fail)
    rw [← HW0.out]
    refine (wout_nil _).mono ?_
    rintro e v1 ⟨rfl, rfl⟩
    go_wp2_with fail
    refine (wout_nil _).mono ?_
    rintro e v1 ⟨rfl, rfl⟩
    go_wp2_with fail
    refine (rout_nil _).mono ?_
    rintro e v1 ⟨rfl, rfl⟩
    go_wp2_with fail
    refine (sameBytes_eq _ _ [] _ (by decide) (Mm.BytesV.nil _) (Mm.BytesV.nil _)).mono ?_
    rintro e w1 ⟨rfl, hb1⟩
    have H1 := Pl.hid hb1
    clear hb1
    go_wp2_with fail
    refine (rout_nil _).mono ?_
    rintro e v1 ⟨rfl, rfl⟩
    go_wp2_with fail
    refine (sameBytes_eq _ _ [] _ (by decide) (Mm.BytesV.nil _) (Mm.BytesV.nil _)).mono ?_
    rintro e w2 ⟨rfl, hb2⟩
    have H2 := Pl.hid (H1.out.trans (hb2.mono H1.out.size))
    clear hb2
    go_wp2_with fail
    go_loop [19] (fun iv => iv = .int .i64 0) (fun iv => 1 - (intOf iv).toNat)
    case atStart => rfl
    case round =>
      obtain rfl := hrel
      go_wp2_with fail
      go_loopw [17, 20] (fun av iv wr => ∃ (i : Nat) (L : List UInt8), iv = .int .i64 i ∧ i ≤ 200 ∧ Hid (L.length = i) ∧ Hid (Mm.OwnB wr w0.heap.size av L) ∧ Hid (Below w0.heap.size w0 wr)) (fun _ iv _ => 200 - (intOf iv).toNat)
      case atStart => exact ⟨0, [], rfl, by decide, rfl, Mm.ownB_nil _ _, H2⟩
      case round =>
        obtain ⟨i, L, rfl, hi, HL, HO, HR⟩ := hrel
        rcases Nat.lt_or_ge i 200 with hlt | hge
        · have hLl : L.length < 140737488355328 := by rw [HL.out]; omega
          go_wp2_with (at_builtin; refine Mm.wp_app1 _ rfl _ _ (by rfl) w0.heap.size _ L 8 (by rfl) (by rfl) HO.out hLl HR.out.size ?_; intro v2 w2 hown2 hb2)
          have HO2 := Pl.hid hown2
          have HB2 := Pl.hid (HR.out.trans hb2)
          clear hown2 hb2
          go_roundw
          case rel => exact ⟨i + 1, L ++ [8], by go_num, by omega, (show _ = _ by rw [List.length_append, HL.out]; rfl), HO2, HB2⟩
          case measure => simp [intOf]; omega
        · obtain rfl : i = 200 := by omega
          obtain ⟨av, cv, rfl, hval⟩ := HO.out.val
          rw [HL.out]
          clear hval
          go_wp2_with fail
          refine (rout_nil _).mono ?_
          rintro e v1 ⟨rfl, rfl⟩
          go_wp2_with fail
          refine (sameBytes_eq _ _ [] _ (by decide) (Mm.BytesV.nil _) (Mm.BytesV.nil _)).mono ?_
          rintro e w3 ⟨rfl, hb3⟩
          have H3 := Pl.hid (HR.out.trans (hb3.mono HR.out.size))
          clear hb3
          go_wp2_with fail
          refine (wclosed_nil _).mono ?_
          rintro e v1 ⟨rfl, rfl⟩
          go_wp2_with fail
          refine (rclosed_nil _).mono ?_
          rintro e v2 ⟨rfl, rfl⟩
          go_wp2_with fail
          refine (wbroken_nil _).mono ?_
          rintro e v3 ⟨rfl, rfl⟩
          go_wp2_with fail
          refine (rbroken_nil _).mono ?_
          rintro e v4 ⟨rfl, rfl⟩
          go_wp2_with fail
          go_ret
          exact ⟨rfl, HB0.out.trans (H3.out.mono HB0.out.size)⟩
  · skip
    go_enter Tryz.func8, Tryz.ntmps8
    go_wp2_with (fail)
    rw [← HW0.out]
    refine (wclose_nil _).mono ?_
    rintro e v1 ⟨⟨x, rfl⟩, rfl⟩
    go_wp2_with fail
    refine (rclose_nil _).mono ?_
    rintro e v1 ⟨⟨x', rfl⟩, rfl⟩
    go_wp2_with fail
    refine (wclosed_nil _).mono ?_
    rintro e v1 ⟨rfl, rfl⟩
    go_wp2_with fail
    refine (rclosed_nil _).mono ?_
    rintro e v2 ⟨rfl, rfl⟩
    go_wp2_with fail
    refine (wbroken_nil _).mono ?_
    rintro e v3 ⟨rfl, rfl⟩
    go_wp2_with fail
    refine (rbroken_nil _).mono ?_
    rintro e v4 ⟨rfl, rfl⟩
    go_wp2_with fail
    go_ret
    exact ⟨rfl, HB0.out.trans ((Below.refl w0.heap.size w0).mono HB0.out.size)⟩
  · skip
    have z0 : (d == 0) = false := beq_eq_false_iff_ne.2 n0
    have z1 : (d == 1) = false := beq_eq_false_iff_ne.2 n1
    have z2 : (d == 2) = false := beq_eq_false_iff_ne.2 n2
    have z3 : (d == 3) = false := beq_eq_false_iff_ne.2 n3
    have z4 : (d == 4) = false := beq_eq_false_iff_ne.2 n4
    go_enter Tryz.func8, Tryz.ntmps8
    go_wp2_with (fail)
    rw [← HW0.out]
    refine (wclosed_nil _).mono ?_
    rintro e v1 ⟨rfl, rfl⟩
    go_wp2_with fail
    refine (rclosed_nil _).mono ?_
    rintro e v2 ⟨rfl, rfl⟩
    go_wp2_with fail
    refine (wbroken_nil _).mono ?_
    rintro e v3 ⟨rfl, rfl⟩
    go_wp2_with fail
    refine (rbroken_nil _).mono ?_
    rintro e v4 ⟨rfl, rfl⟩
    go_wp2_with fail
    go_ret
    exact ⟨rfl, HB0.out.trans ((Below.refl w0.heap.size w0).mono HB0.out.size)⟩
end Go.Proofs.YtijjodhkfpjihaaGreatDoor
