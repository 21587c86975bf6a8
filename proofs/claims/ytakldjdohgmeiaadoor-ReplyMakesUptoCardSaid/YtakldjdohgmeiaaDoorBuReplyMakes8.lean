/- reply's lay of a reply that is no array and no bulk. Conditions stand in each law. Conditions stand in each law. -/
import Derived.Test.YtakldjdohgmeiaaDoorBuReplyMakes7
namespace Go.Proofs.YtakldjdohgmeiaaDoor
open Go.RowKit
set_option maxRecDepth 20000

theorem sign_1 (w : World) : Calls Tryd.prog 60 #[.int .i64 1] w fun e w' => e = .returned (.int .u8 43) ∧ w = w' := by
  go_enter Tryd.func60, Tryd.ntmps60
  go_wp2_with fail
  go_ret
  exact ⟨rfl, rfl⟩
theorem sign_2 (w : World) : Calls Tryd.prog 60 #[.int .i64 2] w fun e w' => e = .returned (.int .u8 45) ∧ w = w' := by
  go_enter Tryd.func60, Tryd.ntmps60
  go_wp2_with fail
  go_ret
  exact ⟨rfl, rfl⟩
theorem sign_3 (w : World) : Calls Tryd.prog 60 #[.int .i64 3] w fun e w' => e = .returned (.int .u8 58) ∧ w = w' := by
  go_enter Tryd.func60, Tryd.ntmps60
  go_wp2_with fail
  go_ret
  exact ⟨rfl, rfl⟩
theorem sign_7 (w : World) : Calls Tryd.prog 60 #[.int .i64 7] w fun e w' => e = .returned (.int .u8 42) ∧ w = w' := by
  go_enter Tryd.func60, Tryd.ntmps60
  go_wp2_with fail
  go_ret
  exact ⟨rfl, rfl⟩
theorem sign_5b (w : World) : Calls Tryd.prog 60 #[.int .i64 5] w fun e w' => e = .returned (.int .u8 36) ∧ w = w' := by
  go_enter Tryd.func60, Tryd.ntmps60
  go_wp2_with fail
  go_ret
  exact ⟨rfl, rfl⟩
set_option maxHeartbeats 4000000 in
theorem lay_text1 (s : ByteArray) (la : Option Addr) (lc base : Nat) (v : Value) (l : List UInt8) (w : World) (hb : base ≤ w.heap.size) (ho : Mm.OwnB w base v l) (hl : l.length ≤ 1099511627776) (hs : s.size ≤ 1099511627776) :
    Calls Tryd.prog 48 #[v, .agg #[.int .i64 1, .string s, .int .i64 0, .slice la 0 lc]] w fun e w' => ∃ v', e = .returned v' ∧ Mm.OwnB w' base v' (l ++ ([43] ++ Pl.L s ++ Pl.crlf)) ∧ Below base w w' ∧ Mm.NB w w' := by
  obtain ⟨p, hp⟩ : ∃ p, p = w.heap.size := ⟨_, rfl⟩
  obtain ⟨w0, hw0⟩ : ∃ w0, w0 = w.alloc (.cells #[.int .i64 1, .string s, .int .i64 0, .slice la 0 lc] 31) := ⟨_, rfl⟩
  have HP0 : Hid (w0.heap[p]? = some (.cells #[.int .i64 1, .string s, .int .i64 0, .slice la 0 lc] 31 (0, 0))) := by
    show _ = _
    rw [hw0, hp]
    exact heap_alloc_new w _
  have HB0 : Hid (Below w.heap.size w w0) := by rw [hw0]; exact (Below.refl _ _).alloc (Nat.le_refl _) _
  have HS0 : Hid (w0.heap.size = w.heap.size + 1) := by show _ = _; rw [hw0]; simp
  have hnu : ¬ Mm.isU8 (.cells #[.int .i64 1, .string s, .int .i64 0, .slice la 0 lc] 31 (0, 0)) := by
    rintro ⟨cs, fr, e⟩
    injection e with _ e _
    exact absurd e (by decide)
  have HK : Hid (∀ V, Mm.NB w0 V → V.cell? ⟨p, 0, none⟩ = some (.int .i64 1) ∧ V.cell? ⟨p, 1, none⟩ = some (.string s) ∧ V.cell? ⟨p, 2, none⟩ = some (.int .i64 0)) := fun V hV => by
    have h := hV p _ HP0.out hnu
    exact ⟨Mm.cellOf h rfl, Mm.cellOf h rfl, Mm.cellOf h rfl⟩
  have HO0 : Hid (Mm.OwnB w0 base v l) := ho.keep fun g hg => HB0.out.block g (ho.lt g hg).2
  have hb0 : base ≤ w0.heap.size := by rw [HS0.out]; omega
  have HBB := Pl.hid hb
  obtain ⟨k0, k1, k2⟩ := HK.out w0 (Mm.NB.refl _)
  have HW0eq := Pl.hid hw0
  have HPeq := Pl.hid hp
  have HLs := Pl.hid (Pl.L_length s)
  have HE1 : Hid ((l ++ [43]).length ≤ 1099511627777) := by show (l ++ [43]).length ≤ _; simp; omega
  have HE2 : Hid ((l ++ [43] ++ Pl.L s).length ≤ 2199023255553) := by show (l ++ [43] ++ Pl.L s).length ≤ _; simp [Pl.L_length]; omega
  clear hw0 hp hnu ho
  go_enter Tryd.func48, Tryd.ntmps48
  go_wp2_with fail
  rw [← HW0eq.out, ← HPeq.out]
  refine (sign_1 w0).mono ?_
  rintro e w0' ⟨rfl, rfl⟩
  go_wp2_with (first
    | (at_builtin; refine Mm.wp_app1N w0 rfl _ _ (by rfl) base v l 43 (by rfl) (by rfl) HO0.out (by omega) hb0 ?_; intro v1 w1 ho1 hb1 hn1; have HO1 := Pl.hid ho1; have HB1 := Pl.hid hb1; have HN1 := Pl.hid hn1; clear ho1 hb1 hn1 k0 k1 k2; obtain ⟨k0, k1, k2⟩ := HK.out w1 HN1.out; have hb1s := Nat.le_trans hb0 HB1.out.size)
    | (at_builtin; refine Mm.wp_appSN w1 rfl _ _ (by rfl) base v1 _ s (by rfl) (by rfl) HO1.out (by have := HE1.out; omega) hb1s ?_; intro v3 w3 ho3 hb3 hn3; have HO3 := Pl.hid ho3; have HB3 := Pl.hid (HB1.out.trans hb3); have HN3 := Pl.hid (HN1.out.trans hn3); clear ho3 hb3 hn3; have hb3s := Nat.le_trans hb0 HB3.out.size)
    | (at_builtin; refine Mm.wp_appSN w3 rfl _ _ (by rfl) base v3 _ ⟨#[13, 10]⟩ (by rfl) (by rfl) HO3.out (by have := HE2.out; have : (⟨#[13, 10]⟩ : ByteArray).size = 2 := rfl; omega) hb3s ?_; intro v4 w4 ho4 hb4 hn4; have HO4 := Pl.hid ho4; have HB4 := Pl.hid (HB3.out.trans hb4); have HN4 := Pl.hid (HN3.out.trans hn4); clear ho4 hb4 hn4; have hb4s := Nat.le_trans hb0 HB4.out.size))
  go_ret
  refine ⟨v4, rfl, ?_, (HB0.out.mono HBB.out).trans HB4.out, (Mm.NB.below HB0.out).trans HN4.out⟩
  have h := HO4.out
  rw [show (⟨#[13, 10]⟩ : ByteArray) = Pl.B Pl.crlf from rfl, Pl.L_B] at h
  simpa using h
set_option maxHeartbeats 4000000 in
theorem lay_text2 (s : ByteArray) (la : Option Addr) (lc base : Nat) (v : Value) (l : List UInt8) (w : World) (hb : base ≤ w.heap.size) (ho : Mm.OwnB w base v l) (hl : l.length ≤ 1099511627776) (hs : s.size ≤ 1099511627776) :
    Calls Tryd.prog 48 #[v, .agg #[.int .i64 2, .string s, .int .i64 0, .slice la 0 lc]] w fun e w' => ∃ v', e = .returned v' ∧ Mm.OwnB w' base v' (l ++ ([45] ++ Pl.L s ++ Pl.crlf)) ∧ Below base w w' ∧ Mm.NB w w' := by
  obtain ⟨p, hp⟩ : ∃ p, p = w.heap.size := ⟨_, rfl⟩
  obtain ⟨w0, hw0⟩ : ∃ w0, w0 = w.alloc (.cells #[.int .i64 2, .string s, .int .i64 0, .slice la 0 lc] 31) := ⟨_, rfl⟩
  have HP0 : Hid (w0.heap[p]? = some (.cells #[.int .i64 2, .string s, .int .i64 0, .slice la 0 lc] 31 (0, 0))) := by
    show _ = _
    rw [hw0, hp]
    exact heap_alloc_new w _
  have HB0 : Hid (Below w.heap.size w w0) := by rw [hw0]; exact (Below.refl _ _).alloc (Nat.le_refl _) _
  have HS0 : Hid (w0.heap.size = w.heap.size + 1) := by show _ = _; rw [hw0]; simp
  have hnu : ¬ Mm.isU8 (.cells #[.int .i64 2, .string s, .int .i64 0, .slice la 0 lc] 31 (0, 0)) := by
    rintro ⟨cs, fr, e⟩
    injection e with _ e _
    exact absurd e (by decide)
  have HK : Hid (∀ V, Mm.NB w0 V → V.cell? ⟨p, 0, none⟩ = some (.int .i64 2) ∧ V.cell? ⟨p, 1, none⟩ = some (.string s) ∧ V.cell? ⟨p, 2, none⟩ = some (.int .i64 0)) := fun V hV => by
    have h := hV p _ HP0.out hnu
    exact ⟨Mm.cellOf h rfl, Mm.cellOf h rfl, Mm.cellOf h rfl⟩
  have HO0 : Hid (Mm.OwnB w0 base v l) := ho.keep fun g hg => HB0.out.block g (ho.lt g hg).2
  have hb0 : base ≤ w0.heap.size := by rw [HS0.out]; omega
  have HBB := Pl.hid hb
  obtain ⟨k0, k1, k2⟩ := HK.out w0 (Mm.NB.refl _)
  have HW0eq := Pl.hid hw0
  have HPeq := Pl.hid hp
  have HLs := Pl.hid (Pl.L_length s)
  have HE1 : Hid ((l ++ [45]).length ≤ 1099511627777) := by show (l ++ [45]).length ≤ _; simp; omega
  have HE2 : Hid ((l ++ [45] ++ Pl.L s).length ≤ 2199023255553) := by show (l ++ [45] ++ Pl.L s).length ≤ _; simp [Pl.L_length]; omega
  clear hw0 hp hnu ho
  go_enter Tryd.func48, Tryd.ntmps48
  go_wp2_with fail
  rw [← HW0eq.out, ← HPeq.out]
  refine (sign_2 w0).mono ?_
  rintro e w0' ⟨rfl, rfl⟩
  go_wp2_with (first
    | (at_builtin; refine Mm.wp_app1N w0 rfl _ _ (by rfl) base v l 45 (by rfl) (by rfl) HO0.out (by omega) hb0 ?_; intro v1 w1 ho1 hb1 hn1; have HO1 := Pl.hid ho1; have HB1 := Pl.hid hb1; have HN1 := Pl.hid hn1; clear ho1 hb1 hn1 k0 k1 k2; obtain ⟨k0, k1, k2⟩ := HK.out w1 HN1.out; have hb1s := Nat.le_trans hb0 HB1.out.size)
    | (at_builtin; refine Mm.wp_appSN w1 rfl _ _ (by rfl) base v1 _ s (by rfl) (by rfl) HO1.out (by have := HE1.out; omega) hb1s ?_; intro v3 w3 ho3 hb3 hn3; have HO3 := Pl.hid ho3; have HB3 := Pl.hid (HB1.out.trans hb3); have HN3 := Pl.hid (HN1.out.trans hn3); clear ho3 hb3 hn3; have hb3s := Nat.le_trans hb0 HB3.out.size)
    | (at_builtin; refine Mm.wp_appSN w3 rfl _ _ (by rfl) base v3 _ ⟨#[13, 10]⟩ (by rfl) (by rfl) HO3.out (by have := HE2.out; have : (⟨#[13, 10]⟩ : ByteArray).size = 2 := rfl; omega) hb3s ?_; intro v4 w4 ho4 hb4 hn4; have HO4 := Pl.hid ho4; have HB4 := Pl.hid (HB3.out.trans hb4); have HN4 := Pl.hid (HN3.out.trans hn4); clear ho4 hb4 hn4; have hb4s := Nat.le_trans hb0 HB4.out.size))
  go_ret
  refine ⟨v4, rfl, ?_, (HB0.out.mono HBB.out).trans HB4.out, (Mm.NB.below HB0.out).trans HN4.out⟩
  have h := HO4.out
  rw [show (⟨#[13, 10]⟩ : ByteArray) = Pl.B Pl.crlf from rfl, Pl.L_B] at h
  simpa using h
set_option maxHeartbeats 4000000 in
theorem lay_int (s : ByteArray) (n : Int) (hn : Pl.In64 n) (la : Option Addr) (lc base : Nat) (v : Value) (l : List UInt8) (W w : World) (hT : Mm.Tab W) (hW : Below W.heap.size W w) (hWb : W.heap.size ≤ base) (hb : base ≤ w.heap.size) (ho : Mm.OwnB w base v l) (hl : l.length ≤ 1099511627776) :
    Calls Tryd.prog 48 #[v, .agg #[.int .i64 3, .string s, .int .i64 n, .slice la 0 lc]] w fun e w' => ∃ v', e = .returned v' ∧ Mm.OwnB w' base v' (l ++ ([58] ++ Lib.itoa n ++ Pl.crlf)) ∧ Below base w w' ∧ Mm.NB w w' := by
  obtain ⟨p, hp⟩ : ∃ p, p = w.heap.size := ⟨_, rfl⟩
  obtain ⟨w0, hw0⟩ : ∃ w0, w0 = w.alloc (.cells #[.int .i64 3, .string s, .int .i64 n, .slice la 0 lc] 31) := ⟨_, rfl⟩
  have HP0 : Hid (w0.heap[p]? = some (.cells #[.int .i64 3, .string s, .int .i64 n, .slice la 0 lc] 31 (0, 0))) := by
    show _ = _
    rw [hw0, hp]
    exact heap_alloc_new w _
  have HB0 : Hid (Below w.heap.size w w0) := by rw [hw0]; exact (Below.refl _ _).alloc (Nat.le_refl _) _
  have HS0 : Hid (w0.heap.size = w.heap.size + 1) := by show _ = _; rw [hw0]; simp
  have hnu : ¬ Mm.isU8 (.cells #[.int .i64 3, .string s, .int .i64 n, .slice la 0 lc] 31 (0, 0)) := by
    rintro ⟨cs, fr, e⟩
    injection e with _ e _
    exact absurd e (by decide)
  have HK : Hid (∀ V, Mm.NB w0 V → V.cell? ⟨p, 0, none⟩ = some (.int .i64 3) ∧ V.cell? ⟨p, 1, none⟩ = some (.string s) ∧ V.cell? ⟨p, 2, none⟩ = some (.int .i64 n)) := fun V hV => by
    have h := hV p _ HP0.out hnu
    exact ⟨Mm.cellOf h rfl, Mm.cellOf h rfl, Mm.cellOf h rfl⟩
  have HO0 : Hid (Mm.OwnB w0 base v l) := ho.keep fun g hg => HB0.out.block g (ho.lt g hg).2
  have hb0 : base ≤ w0.heap.size := by rw [HS0.out]; omega
  have HBB := Pl.hid hb
  obtain ⟨k0, k1, k2⟩ := HK.out w0 (Mm.NB.refl _)
  have HW0eq := Pl.hid hw0
  have HPeq := Pl.hid hp
  obtain ⟨TX, hTX⟩ : ∃ TX, TX = Pl.B (Lib.itoa n) := ⟨_, rfl⟩
  have hTs : TX.size ≤ 21 := by rw [hTX, Pl.B_size]; exact Pl.itoa_le _ hn
  have HTX := Pl.hid hTX
  have HTW := Pl.hid (fun w' (hw' : Mm.Tab w') => text_walk n w' hn hw')
  rw [← hTX] at HTW
  have HW := Pl.hid hW
  have HT := Pl.hid hT
  have HWb := Pl.hid hWb
  have HE1 : Hid ((l ++ [58]).length ≤ 1099511627777) := by show (l ++ [58]).length ≤ _; simp; omega
  have HE2 : Hid ((l ++ [58] ++ Pl.L TX).length ≤ 2199023255553) := by show (l ++ [58] ++ Pl.L TX).length ≤ _; simp [Pl.L_length]; omega
  clear hw0 hp hnu ho hT hW hTX hn
  go_enter Tryd.func48, Tryd.ntmps48
  go_wp2_with fail
  rw [← HW0eq.out, ← HPeq.out]
  refine (sign_3 w0).mono ?_
  rintro e w0' ⟨rfl, rfl⟩
  go_wp2_with (at_builtin; refine Mm.wp_app1N w0 rfl _ _ (by rfl) base v l 58 (by rfl) (by rfl) HO0.out (by omega) hb0 ?_; intro v1 w1 ho1 hb1 hn1; have HO1 := Pl.hid ho1; have HB1 := Pl.hid hb1; have HN1 := Pl.hid hn1; clear ho1 hb1 hn1 k0 k1 k2; obtain ⟨k0, k1, k2⟩ := HK.out w1 HN1.out; have hb1s := Nat.le_trans hb0 HB1.out.size)
  have HW1 : Hid (Below W.heap.size W w1) := HW.out.trans (((HB0.out.mono HBB.out).trans HB1.out).mono HWb.out)
  refine (HTW.out w1 (HT.out.on HW1.out)).mono ?_
  rintro e w2 ⟨rfl, hb2⟩
  have HN2 := Pl.hid (HN1.out.trans (Mm.NB.below hb2))
  have HB2 := Pl.hid (HB1.out.trans (hb2.mono (Nat.le_trans hb0 HB1.out.size)))
  have HO2 : Hid (Mm.OwnB w2 base v1 (l ++ [58])) := HO1.out.keep fun g hg => hb2.block g (HO1.out.lt g hg).2
  clear hb2 k0 k1 k2
  obtain ⟨k0, k1, k2⟩ := HK.out w2 HN2.out
  have hb2s : base ≤ w2.heap.size := Nat.le_trans hb0 HB2.out.size
  go_wp2_with (first
    | (at_builtin; refine Mm.wp_appSN w2 rfl _ _ (by rfl) base v1 _ TX (by rfl) (by rfl) HO2.out (by have := HE1.out; omega) hb2s ?_; intro v3 w3 ho3 hb3 hn3; have HO3 := Pl.hid ho3; have HB3 := Pl.hid (HB2.out.trans hb3); have HN3 := Pl.hid (HN2.out.trans hn3); clear ho3 hb3 hn3; have hb3s := Nat.le_trans hb0 HB3.out.size)
    | (at_builtin; refine Mm.wp_appSN w3 rfl _ _ (by rfl) base v3 _ ⟨#[13, 10]⟩ (by rfl) (by rfl) HO3.out (by have := HE2.out; have : (⟨#[13, 10]⟩ : ByteArray).size = 2 := rfl; omega) hb3s ?_; intro v4 w4 ho4 hb4 hn4; have HO4 := Pl.hid ho4; have HB4 := Pl.hid (HB3.out.trans hb4); have HN4 := Pl.hid (HN3.out.trans hn4); clear ho4 hb4 hn4; have hb4s := Nat.le_trans hb0 HB4.out.size))
  go_ret
  refine ⟨v4, rfl, ?_, (HB0.out.mono HBB.out).trans HB4.out, (Mm.NB.below HB0.out).trans HN4.out⟩
  have h := HO4.out
  rw [HTX.out, show (⟨#[13, 10]⟩ : ByteArray) = Pl.B Pl.crlf from rfl, Pl.L_B, Pl.L_B] at h
  simpa using h
set_option maxHeartbeats 4000000 in
theorem lay_neg5 (s : ByteArray) (la : Option Addr) (lc base : Nat) (v : Value) (l : List UInt8) (w : World) (hb : base ≤ w.heap.size) (ho : Mm.OwnB w base v l) (hl : l.length ≤ 1099511627776) :
    Calls Tryd.prog 48 #[v, .agg #[.int .i64 5, .string s, .int .i64 0, .slice la 0 lc]] w fun e w' => ∃ v', e = .returned v' ∧ Mm.OwnB w' base v' (l ++ [36, 45, 49, 13, 10]) ∧ Below base w w' ∧ Mm.NB w w' := by
  obtain ⟨p, hp⟩ : ∃ p, p = w.heap.size := ⟨_, rfl⟩
  obtain ⟨w0, hw0⟩ : ∃ w0, w0 = w.alloc (.cells #[.int .i64 5, .string s, .int .i64 0, .slice la 0 lc] 31) := ⟨_, rfl⟩
  have HP0 : Hid (w0.heap[p]? = some (.cells #[.int .i64 5, .string s, .int .i64 0, .slice la 0 lc] 31 (0, 0))) := by
    show _ = _
    rw [hw0, hp]
    exact heap_alloc_new w _
  have HB0 : Hid (Below w.heap.size w w0) := by rw [hw0]; exact (Below.refl _ _).alloc (Nat.le_refl _) _
  have HS0 : Hid (w0.heap.size = w.heap.size + 1) := by show _ = _; rw [hw0]; simp
  have hnu : ¬ Mm.isU8 (.cells #[.int .i64 5, .string s, .int .i64 0, .slice la 0 lc] 31 (0, 0)) := by
    rintro ⟨cs, fr, e⟩
    injection e with _ e _
    exact absurd e (by decide)
  have HK : Hid (∀ V, Mm.NB w0 V → V.cell? ⟨p, 0, none⟩ = some (.int .i64 5) ∧ V.cell? ⟨p, 1, none⟩ = some (.string s) ∧ V.cell? ⟨p, 2, none⟩ = some (.int .i64 0)) := fun V hV => by
    have h := hV p _ HP0.out hnu
    exact ⟨Mm.cellOf h rfl, Mm.cellOf h rfl, Mm.cellOf h rfl⟩
  have HO0 : Hid (Mm.OwnB w0 base v l) := ho.keep fun g hg => HB0.out.block g (ho.lt g hg).2
  have hb0 : base ≤ w0.heap.size := by rw [HS0.out]; omega
  have HBB := Pl.hid hb
  obtain ⟨k0, k1, k2⟩ := HK.out w0 (Mm.NB.refl _)
  have HW0eq := Pl.hid hw0
  have HPeq := Pl.hid hp
  have HE1 : Hid ((l ++ [36]).length ≤ 1099511627777) := by show (l ++ [36]).length ≤ _; simp; omega
  have HE2 : Hid ((l ++ [36] ++ Pl.L ⟨#[45, 49]⟩).length ≤ 2199023255553) := by show (l ++ [36] ++ [45, 49]).length ≤ 2199023255553; simp; omega
  clear hw0 hp hnu ho
  go_enter Tryd.func48, Tryd.ntmps48
  go_wp2_with fail
  rw [← HW0eq.out, ← HPeq.out]
  refine (sign_5b w0).mono ?_
  rintro e w0' ⟨rfl, rfl⟩
  go_wp2_with (first
    | (at_builtin; refine Mm.wp_app1N w0 rfl _ _ (by rfl) base v l 36 (by rfl) (by rfl) HO0.out (by omega) hb0 ?_; intro v1 w1 ho1 hb1 hn1; have HO1 := Pl.hid ho1; have HB1 := Pl.hid hb1; have HN1 := Pl.hid hn1; clear ho1 hb1 hn1 k0 k1 k2; obtain ⟨k0, k1, k2⟩ := HK.out w1 HN1.out; have hb1s := Nat.le_trans hb0 HB1.out.size)
    | (at_builtin; refine Mm.wp_appSN w1 rfl _ _ (by rfl) base v1 _ ⟨#[45, 49]⟩ (by rfl) (by rfl) HO1.out (by have := HE1.out; have : (⟨#[45, 49]⟩ : ByteArray).size = 2 := rfl; omega) hb1s ?_; intro v3 w3 ho3 hb3 hn3; have HO3 := Pl.hid ho3; have HB3 := Pl.hid (HB1.out.trans hb3); have HN3 := Pl.hid (HN1.out.trans hn3); clear ho3 hb3 hn3; have hb3s := Nat.le_trans hb0 HB3.out.size)
    | (at_builtin; refine Mm.wp_appSN w3 rfl _ _ (by rfl) base v3 _ ⟨#[13, 10]⟩ (by rfl) (by rfl) HO3.out (by have := HE2.out; have : (⟨#[13, 10]⟩ : ByteArray).size = 2 := rfl; omega) hb3s ?_; intro v4 w4 ho4 hb4 hn4; have HO4 := Pl.hid ho4; have HB4 := Pl.hid (HB3.out.trans hb4); have HN4 := Pl.hid (HN3.out.trans hn4); clear ho4 hb4 hn4; have hb4s := Nat.le_trans hb0 HB4.out.size))
  go_ret
  refine ⟨v4, rfl, ?_, (HB0.out.mono HBB.out).trans HB4.out, (Mm.NB.below HB0.out).trans HN4.out⟩
  have h := HO4.out
  rw [show (⟨#[13, 10]⟩ : ByteArray) = Pl.B Pl.crlf from rfl, show (⟨#[45, 49]⟩ : ByteArray) = Pl.B [45, 49] from rfl, Pl.L_B, Pl.L_B] at h
  simpa [Pl.crlf] using h
set_option maxHeartbeats 4000000 in
theorem lay_neg7 (s : ByteArray) (la : Option Addr) (lc base : Nat) (v : Value) (l : List UInt8) (w : World) (hb : base ≤ w.heap.size) (ho : Mm.OwnB w base v l) (hl : l.length ≤ 1099511627776) :
    Calls Tryd.prog 48 #[v, .agg #[.int .i64 7, .string s, .int .i64 0, .slice la 0 lc]] w fun e w' => ∃ v', e = .returned v' ∧ Mm.OwnB w' base v' (l ++ [42, 45, 49, 13, 10]) ∧ Below base w w' ∧ Mm.NB w w' := by
  obtain ⟨p, hp⟩ : ∃ p, p = w.heap.size := ⟨_, rfl⟩
  obtain ⟨w0, hw0⟩ : ∃ w0, w0 = w.alloc (.cells #[.int .i64 7, .string s, .int .i64 0, .slice la 0 lc] 31) := ⟨_, rfl⟩
  have HP0 : Hid (w0.heap[p]? = some (.cells #[.int .i64 7, .string s, .int .i64 0, .slice la 0 lc] 31 (0, 0))) := by
    show _ = _
    rw [hw0, hp]
    exact heap_alloc_new w _
  have HB0 : Hid (Below w.heap.size w w0) := by rw [hw0]; exact (Below.refl _ _).alloc (Nat.le_refl _) _
  have HS0 : Hid (w0.heap.size = w.heap.size + 1) := by show _ = _; rw [hw0]; simp
  have hnu : ¬ Mm.isU8 (.cells #[.int .i64 7, .string s, .int .i64 0, .slice la 0 lc] 31 (0, 0)) := by
    rintro ⟨cs, fr, e⟩
    injection e with _ e _
    exact absurd e (by decide)
  have HK : Hid (∀ V, Mm.NB w0 V → V.cell? ⟨p, 0, none⟩ = some (.int .i64 7) ∧ V.cell? ⟨p, 1, none⟩ = some (.string s) ∧ V.cell? ⟨p, 2, none⟩ = some (.int .i64 0)) := fun V hV => by
    have h := hV p _ HP0.out hnu
    exact ⟨Mm.cellOf h rfl, Mm.cellOf h rfl, Mm.cellOf h rfl⟩
  have HO0 : Hid (Mm.OwnB w0 base v l) := ho.keep fun g hg => HB0.out.block g (ho.lt g hg).2
  have hb0 : base ≤ w0.heap.size := by rw [HS0.out]; omega
  have HBB := Pl.hid hb
  obtain ⟨k0, k1, k2⟩ := HK.out w0 (Mm.NB.refl _)
  have HW0eq := Pl.hid hw0
  have HPeq := Pl.hid hp
  have HE1 : Hid ((l ++ [42]).length ≤ 1099511627777) := by show (l ++ [42]).length ≤ _; simp; omega
  have HE2 : Hid ((l ++ [42] ++ Pl.L ⟨#[45, 49]⟩).length ≤ 2199023255553) := by show (l ++ [42] ++ [45, 49]).length ≤ 2199023255553; simp; omega
  clear hw0 hp hnu ho
  go_enter Tryd.func48, Tryd.ntmps48
  go_wp2_with fail
  rw [← HW0eq.out, ← HPeq.out]
  refine (sign_7 w0).mono ?_
  rintro e w0' ⟨rfl, rfl⟩
  go_wp2_with (first
    | (at_builtin; refine Mm.wp_app1N w0 rfl _ _ (by rfl) base v l 42 (by rfl) (by rfl) HO0.out (by omega) hb0 ?_; intro v1 w1 ho1 hb1 hn1; have HO1 := Pl.hid ho1; have HB1 := Pl.hid hb1; have HN1 := Pl.hid hn1; clear ho1 hb1 hn1 k0 k1 k2; obtain ⟨k0, k1, k2⟩ := HK.out w1 HN1.out; have hb1s := Nat.le_trans hb0 HB1.out.size)
    | (at_builtin; refine Mm.wp_appSN w1 rfl _ _ (by rfl) base v1 _ ⟨#[45, 49]⟩ (by rfl) (by rfl) HO1.out (by have := HE1.out; have : (⟨#[45, 49]⟩ : ByteArray).size = 2 := rfl; omega) hb1s ?_; intro v3 w3 ho3 hb3 hn3; have HO3 := Pl.hid ho3; have HB3 := Pl.hid (HB1.out.trans hb3); have HN3 := Pl.hid (HN1.out.trans hn3); clear ho3 hb3 hn3; have hb3s := Nat.le_trans hb0 HB3.out.size)
    | (at_builtin; refine Mm.wp_appSN w3 rfl _ _ (by rfl) base v3 _ ⟨#[13, 10]⟩ (by rfl) (by rfl) HO3.out (by have := HE2.out; have : (⟨#[13, 10]⟩ : ByteArray).size = 2 := rfl; omega) hb3s ?_; intro v4 w4 ho4 hb4 hn4; have HO4 := Pl.hid ho4; have HB4 := Pl.hid (HB3.out.trans hb4); have HN4 := Pl.hid (HN3.out.trans hn4); clear ho4 hb4 hn4; have hb4s := Nat.le_trans hb0 HB4.out.size))
  go_ret
  refine ⟨v4, rfl, ?_, (HB0.out.mono HBB.out).trans HB4.out, (Mm.NB.below HB0.out).trans HN4.out⟩
  have h := HO4.out
  rw [show (⟨#[13, 10]⟩ : ByteArray) = Pl.B Pl.crlf from rfl, show (⟨#[45, 49]⟩ : ByteArray) = Pl.B [45, 49] from rfl, Pl.L_B, Pl.L_B] at h
  simpa [Pl.crlf] using h
end Go.Proofs.YtakldjdohgmeiaaDoor
