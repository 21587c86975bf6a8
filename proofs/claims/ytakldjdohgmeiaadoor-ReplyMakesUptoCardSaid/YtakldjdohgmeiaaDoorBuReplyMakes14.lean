/- pantryref01's Text. Conditions stand in the law. pantryref16's written of a reply that may be. Conditions stand in each law. pantryref16's written and Encode of any reply. Conditions stand in each law. reply's and pantryref16's Bulks, Request: the results lie in memory of their own. Conditions stand in each law. pantrylaw16's spoilt: it writes into the lists of a reply, and nowhere else. Conditions stand in each law. pantryref16.Same, pantrylaw16.alike: the same tree is told to be the same. Condition: both read. Conditions stand in each law. -/
import Derived.Test.YtakldjdohgmeiaaDoorBuReplyMakes1
import Derived.Test.YtakldjdohgmeiaaDoorBuReplyMakes13
import Derived.Test.YtakldjdohgmeiaaDoorBuReplyMakes7
import Derived.Test.YtakldjdohgmeiaaDoorBuReplyMakes3
import Derived.Test.YtakldjdohgmeiaaDoorBuReplyMakes12
import Derived.BigRegion
import Derived.Deep.RegionLaw
namespace Go.Proofs.YtakldjdohgmeiaaDoor
open Go.RowKit
set_option maxRecDepth 20000

theorem reftext_walk (n : Int) (w : World) (hn : Pl.In64 n) :
    Calls Tryd.prog 69 #[.int .i64 n] w fun e w' => e = .returned (.string (Pl.B (Lib.itoa n))) ∧ w = w' := by
  have HN := Pl.hid hn
  obtain ⟨n1, n2⟩ := hn
  rcases Int.lt_or_le n 0 with hneg | hpos
  · have HI := Pl.hid (Pl.itoa_neg hneg)
    go_enter Tryd.func69, Tryd.ntmps69
    go_wp2_with fail
    go_loop [3, 4] (fun sv mv => ∃ (m : Int) (u : Nat) (acc : List UInt8) (S : ByteArray), mv = .int .i64 m ∧ sv = .string S ∧ m < 0 ∧ n ≤ m ∧ Hid (S = Pl.B acc) ∧ Hid (m = -(u : Int)) ∧ Hid (Lib.decDigits n.natAbs = Lib.decDigits u ++ acc)) (fun _ m => (intOf m).natAbs)
    case atStart => exact ⟨n, n.natAbs, [], _, rfl, rfl, hneg, Int.le_refl _, rfl, (show n = _ by omega), (show _ = _ by rw [List.append_nil])⟩
    case round =>
      obtain ⟨m, u, acc, S, rfl, rfl, hm0, hmn, HS, HU, HD⟩ := hrel
      have hsz : S.size ≤ 21 := by rw [HS.out, Pl.B_size]; exact Pl.dec_acc HN.out HD.out
      have hu := HU.out
      have hmod : m.tmod 10 = -((u % 10 : Nat) : Int) := by rw [hu]; exact Pl.tmod_neg u
      have hdiv : m.tdiv 10 = -((u / 10 : Nat) : Int) := by rw [hu]; exact Pl.tdiv_neg u
      obtain ⟨k, hk⟩ : ∃ k, k = u % 10 := ⟨_, rfl⟩
      obtain ⟨T, hT⟩ : ∃ T, T = Pl.B [UInt8.ofNat (48 + k)] := ⟨_, rfl⟩
      have hk9 : k < 10 := by omega
      have hTs : T.size ≤ 1 := by rw [hT, Pl.B_size]; exact Nat.le_refl _
      have hrun := fun w' => ten_run k hk9 w'
      rw [← hT] at hrun
      rw [← hk] at hmod
      have HK := Pl.hid hk
      have HT := Pl.hid hT
      clear hk hT
      by_cases hlast : u < 10
      · have HL := Pl.hid (Pl.dec_last HD.out hlast HK.out)
        rw [show u / 10 = 0 by omega] at hdiv
        clear hu hlast
        rcases Nat.eq_zero_or_pos k with rfl | hk1
        · go_wp2_with fail
          go_ret
          exact ⟨Pl.ret1s (by rw [HI.out, ← HL.out, Pl.ten_zero, HS.out, Pl.B_append, show (⟨#[45]⟩ : ByteArray) = Pl.B [45] from rfl, Pl.B_append]; rfl), rfl⟩
        · go_wp2_with fail
          go_ret
          exact ⟨Pl.ret1s (by rw [HI.out, ← HL.out, HT.out, HS.out, Pl.B_append, show (⟨#[45]⟩ : ByteArray) = Pl.B [45] from rfl, Pl.B_append]; rfl), rfl⟩
      · have HL := Pl.hid (Pl.dec_step HD.out hlast HK.out)
        obtain ⟨q, hq⟩ : ∃ q : Int, q = -((u / 10 : Nat) : Int) := ⟨_, rfl⟩
        have hq0 : q < 0 ∧ n ≤ q := by omega
        have hq1 : (q == 0) = false := beq_eq_false_iff_ne.2 (by omega)
        have HM : Hid (q.natAbs < m.natAbs) := by show _ < _; omega
        rw [← hq] at hdiv
        have HQ := Pl.hid hq
        clear hu hlast hq
        rcases Nat.eq_zero_or_pos k with rfl | hk1
        · go_wp2_with fail
          go_round
          case rel => exact ⟨q, u / 10, [UInt8.ofNat (48 + 0)] ++ acc, _, rfl, rfl, by omega, by omega, (show _ = _ by rw [Pl.ten_zero, HS.out, Pl.B_append]), HQ, HL⟩
          case measure => simp only [intOf]; exact HM.out
        · go_wp2_with fail
          go_round
          case rel => exact ⟨q, u / 10, [UInt8.ofNat (48 + k)] ++ acc, _, rfl, rfl, by omega, by omega, (show _ = _ by rw [HT.out, HS.out, Pl.B_append]), HQ, HL⟩
          case measure => simp only [intOf]; exact HM.out
  · have HI := Pl.hid (Pl.itoa_pos hpos)
    go_enter Tryd.func69, Tryd.ntmps69
    go_wp2_with fail
    go_loop [3, 4] (fun sv mv => ∃ (m : Int) (u : Nat) (acc : List UInt8) (S : ByteArray), mv = .int .i64 m ∧ sv = .string S ∧ 0 ≤ m ∧ m ≤ n ∧ Hid (S = Pl.B acc) ∧ Hid (m = (u : Int)) ∧ Hid (Lib.decDigits n.natAbs = Lib.decDigits u ++ acc)) (fun _ m => (intOf m).natAbs)
    case atStart => exact ⟨n, n.natAbs, [], _, rfl, rfl, hpos, Int.le_refl _, rfl, (show n = _ by omega), (show _ = _ by rw [List.append_nil])⟩
    case round =>
      obtain ⟨m, u, acc, S, rfl, rfl, hm0, hmn, HS, HU, HD⟩ := hrel
      have hsz : S.size ≤ 21 := by rw [HS.out, Pl.B_size]; exact Pl.dec_acc HN.out HD.out
      have hu := HU.out
      have hmod : m.tmod 10 = ((u % 10 : Nat) : Int) := by rw [hu]; exact Pl.tmod_pos u
      have hdiv : m.tdiv 10 = ((u / 10 : Nat) : Int) := by rw [hu]; exact Pl.tdiv_pos u
      obtain ⟨k, hk⟩ : ∃ k, k = u % 10 := ⟨_, rfl⟩
      obtain ⟨T, hT⟩ : ∃ T, T = Pl.B [UInt8.ofNat (48 + k)] := ⟨_, rfl⟩
      have hk9 : k < 10 := by omega
      have hTs : T.size ≤ 1 := by rw [hT, Pl.B_size]; exact Nat.le_refl _
      have hrun := fun w' => ten_run k hk9 w'
      rw [← hT] at hrun
      rw [← hk] at hmod
      have HK := Pl.hid hk
      have HT := Pl.hid hT
      clear hk hT
      have hmod2 : m % 10 = (k : Int) := by rw [hu]; have := HK.out; omega
      have hdiv2 : m / 10 = ((u / 10 : Nat) : Int) := by rw [hu]; omega
      by_cases hlast : u < 10
      · have HL := Pl.hid (Pl.dec_last HD.out hlast HK.out)
        have HAbs : Hid (n.natAbs = n.toNat) := by show _ = _; omega
        rw [show u / 10 = 0 by omega] at hdiv hdiv2
        clear hu hlast
        go_wp2_with fail
        go_ret
        exact ⟨Pl.ret1s (by rw [HI.out, HT.out, HS.out, Pl.B_append, HL.out, HAbs.out]), rfl⟩
      · have HL := Pl.hid (Pl.dec_step HD.out hlast HK.out)
        obtain ⟨q, hq⟩ : ∃ q : Int, q = ((u / 10 : Nat) : Int) := ⟨_, rfl⟩
        have hq0 : 0 < q ∧ q ≤ n := by omega
        have hq1 : (q == 0) = false := beq_eq_false_iff_ne.2 (by omega)
        have HM : Hid (q.natAbs < m.natAbs) := by show _ < _; omega
        rw [← hq] at hdiv hdiv2
        have HQ := Pl.hid hq
        clear hu hlast hq
        go_wp2_with fail
        go_round
        case rel => exact ⟨q, u / 10, [UInt8.ofNat (48 + k)] ++ acc, _, rfl, rfl, by omega, by omega, (show _ = _ by rw [HT.out, HS.out, Pl.B_append]), HQ, HL⟩
        case measure => simp only [intOf]; exact HM.out
end Go.Proofs.YtakldjdohgmeiaaDoor

namespace Go.Proofs.YtakldjdohgmeiaaDoor
open Go.RowKit
set_option maxRecDepth 20000

set_option maxHeartbeats 4000000 in
theorem written_1 (s : ByteArray) (most : Int) (la : Option Addr) (lc base : Nat) (v : Value) (l : List UInt8) (w : World) (hb : base ≤ w.heap.size) (ho : Mm.OwnB w base v l) (hl : l.length ≤ 1099511627776) (hs : s.size ≤ 1099511627776) :
    Calls Tryd.prog 55 #[v, .agg #[.int .i64 1, .string s, .int .i64 0, .slice la 0 lc], .int .i64 most] w fun e w' => ∃ v', e = .returned v' ∧ Mm.OwnB w' base v' (l ++ ([43] ++ Pl.L s ++ Pl.crlf)) ∧ Below base w w' ∧ Mm.NB w w' := by
  obtain ⟨p, hp⟩ : ∃ p, p = w.heap.size := ⟨_, rfl⟩
  obtain ⟨w0, hw0⟩ : ∃ w0, w0 = w.alloc (.cells #[.int .i64 1, .string s, .int .i64 0, .slice la 0 lc] 31) := ⟨_, rfl⟩
  have HP0 : Hid (w0.heap[p]? = some (.cells #[.int .i64 1, .string s, .int .i64 0, .slice la 0 lc] 31 (0, 0))) := by
    show _ = _
    rw [hw0, hp]
    exact heap_alloc_new w _
  have HB0 : Hid (Below w.heap.size w w0) := by rw [hw0]; exact (Below.refl _ _).alloc (Nat.le_refl _) _
  have HS0 : Hid (w0.heap.size = w.heap.size + 1) := by show _ = _; rw [hw0]; simp
  have hnu : ¬ Mm.isU8 (.cells #[.int .i64 1, .string s, .int .i64 0, .slice la 0 lc] 31 (0, 0)) := by
    rintro ⟨cs, fr, e⟩
    injection e with _ e _
    exact absurd e (by decide)
  have HK : Hid (∀ V, Mm.NB w0 V → V.cell? ⟨p, 0, none⟩ = some (.int .i64 1) ∧ V.cell? ⟨p, 1, none⟩ = some (.string s)) := fun V hV => by
    have h := hV p _ HP0.out hnu
    exact ⟨Mm.cellOf h rfl, Mm.cellOf h rfl⟩
  have HO0 : Hid (Mm.OwnB w0 base v l) := ho.keep fun g hg => HB0.out.block g (ho.lt g hg).2
  have hb0 : base ≤ w0.heap.size := by rw [HS0.out]; omega
  have HBB := Pl.hid hb
  have HW0eq := Pl.hid hw0
  have HPeq := Pl.hid hp
  obtain ⟨k0, k1⟩ := HK.out w0 (Mm.NB.refl _)
  have HE : Hid (((⟨#[43]⟩ : ByteArray) ++ s ++ ⟨#[13, 10]⟩).size = s.size + 3) := by show _ = _; rw [ByteArray.size_append, ByteArray.size_append, show (⟨#[43]⟩ : ByteArray).size = 1 from rfl, show (⟨#[13, 10]⟩ : ByteArray).size = 2 from rfl]; omega
  have HE2 : Hid (Pl.L ((⟨#[43]⟩ : ByteArray) ++ s ++ ⟨#[13, 10]⟩) = [43] ++ Pl.L s ++ Pl.crlf) := by
    show _ = _
    rw [← Pl.B_L s, show (⟨#[43]⟩ : ByteArray) = Pl.B [43] from rfl, show (⟨#[13, 10]⟩ : ByteArray) = Pl.B Pl.crlf from rfl, Pl.B_append, Pl.B_append, Pl.L_B, Pl.L_B]
  obtain ⟨X, hX⟩ : ∃ X, X = (⟨#[43]⟩ : ByteArray) ++ s ++ ⟨#[13, 10]⟩ := ⟨_, rfl⟩
  rw [← hX] at HE HE2
  have HX := Pl.hid hX
  clear hw0 hp hnu ho hX
  go_enter Tryd.func55, Tryd.ntmps55
  go_wp2_with (at_builtin; rw [← HW0eq.out]; refine Mm.wp_appSN w0 rfl _ _ (by rfl) base v l X (by rfl) (by exact congrArg Value.string HX.out.symm) HO0.out (by have := HE.out; omega) hb0 ?_; intro v3 w3 ho3 hb3 hn3; have HO3 := Pl.hid ho3; have HB3 := Pl.hid hb3; have HN3 := Pl.hid hn3; clear ho3 hb3 hn3)
  go_ret
  refine ⟨v3, rfl, ?_, (HB0.out.mono HBB.out).trans HB3.out, (Mm.NB.below HB0.out).trans HN3.out⟩
  have h := HO3.out
  rw [HE2.out] at h
  exact h
set_option maxHeartbeats 4000000 in
theorem written_2 (s : ByteArray) (most : Int) (la : Option Addr) (lc base : Nat) (v : Value) (l : List UInt8) (w : World) (hb : base ≤ w.heap.size) (ho : Mm.OwnB w base v l) (hl : l.length ≤ 1099511627776) (hs : s.size ≤ 1099511627776) :
    Calls Tryd.prog 55 #[v, .agg #[.int .i64 2, .string s, .int .i64 0, .slice la 0 lc], .int .i64 most] w fun e w' => ∃ v', e = .returned v' ∧ Mm.OwnB w' base v' (l ++ ([45] ++ Pl.L s ++ Pl.crlf)) ∧ Below base w w' ∧ Mm.NB w w' := by
  obtain ⟨p, hp⟩ : ∃ p, p = w.heap.size := ⟨_, rfl⟩
  obtain ⟨w0, hw0⟩ : ∃ w0, w0 = w.alloc (.cells #[.int .i64 2, .string s, .int .i64 0, .slice la 0 lc] 31) := ⟨_, rfl⟩
  have HP0 : Hid (w0.heap[p]? = some (.cells #[.int .i64 2, .string s, .int .i64 0, .slice la 0 lc] 31 (0, 0))) := by
    show _ = _
    rw [hw0, hp]
    exact heap_alloc_new w _
  have HB0 : Hid (Below w.heap.size w w0) := by rw [hw0]; exact (Below.refl _ _).alloc (Nat.le_refl _) _
  have HS0 : Hid (w0.heap.size = w.heap.size + 1) := by show _ = _; rw [hw0]; simp
  have hnu : ¬ Mm.isU8 (.cells #[.int .i64 2, .string s, .int .i64 0, .slice la 0 lc] 31 (0, 0)) := by
    rintro ⟨cs, fr, e⟩
    injection e with _ e _
    exact absurd e (by decide)
  have HK : Hid (∀ V, Mm.NB w0 V → V.cell? ⟨p, 0, none⟩ = some (.int .i64 2) ∧ V.cell? ⟨p, 1, none⟩ = some (.string s)) := fun V hV => by
    have h := hV p _ HP0.out hnu
    exact ⟨Mm.cellOf h rfl, Mm.cellOf h rfl⟩
  have HO0 : Hid (Mm.OwnB w0 base v l) := ho.keep fun g hg => HB0.out.block g (ho.lt g hg).2
  have hb0 : base ≤ w0.heap.size := by rw [HS0.out]; omega
  have HBB := Pl.hid hb
  have HW0eq := Pl.hid hw0
  have HPeq := Pl.hid hp
  obtain ⟨k0, k1⟩ := HK.out w0 (Mm.NB.refl _)
  have HE : Hid (((⟨#[45]⟩ : ByteArray) ++ s ++ ⟨#[13, 10]⟩).size = s.size + 3) := by show _ = _; rw [ByteArray.size_append, ByteArray.size_append, show (⟨#[45]⟩ : ByteArray).size = 1 from rfl, show (⟨#[13, 10]⟩ : ByteArray).size = 2 from rfl]; omega
  have HE2 : Hid (Pl.L ((⟨#[45]⟩ : ByteArray) ++ s ++ ⟨#[13, 10]⟩) = [45] ++ Pl.L s ++ Pl.crlf) := by
    show _ = _
    rw [← Pl.B_L s, show (⟨#[45]⟩ : ByteArray) = Pl.B [45] from rfl, show (⟨#[13, 10]⟩ : ByteArray) = Pl.B Pl.crlf from rfl, Pl.B_append, Pl.B_append, Pl.L_B, Pl.L_B]
  obtain ⟨X, hX⟩ : ∃ X, X = (⟨#[45]⟩ : ByteArray) ++ s ++ ⟨#[13, 10]⟩ := ⟨_, rfl⟩
  rw [← hX] at HE HE2
  have HX := Pl.hid hX
  clear hw0 hp hnu ho hX
  go_enter Tryd.func55, Tryd.ntmps55
  go_wp2_with (at_builtin; rw [← HW0eq.out]; refine Mm.wp_appSN w0 rfl _ _ (by rfl) base v l X (by rfl) (by exact congrArg Value.string HX.out.symm) HO0.out (by have := HE.out; omega) hb0 ?_; intro v3 w3 ho3 hb3 hn3; have HO3 := Pl.hid ho3; have HB3 := Pl.hid hb3; have HN3 := Pl.hid hn3; clear ho3 hb3 hn3)
  go_ret
  refine ⟨v3, rfl, ?_, (HB0.out.mono HBB.out).trans HB3.out, (Mm.NB.below HB0.out).trans HN3.out⟩
  have h := HO3.out
  rw [HE2.out] at h
  exact h
set_option maxHeartbeats 4000000 in
theorem written_5 (s : ByteArray) (most : Int) (la : Option Addr) (lc base : Nat) (v : Value) (l : List UInt8) (w : World) (hb : base ≤ w.heap.size) (ho : Mm.OwnB w base v l) (hl : l.length ≤ 1099511627776) (hs : s.size ≤ 1099511627776) :
    Calls Tryd.prog 55 #[v, .agg #[.int .i64 5, .string s, .int .i64 0, .slice la 0 lc], .int .i64 most] w fun e w' => ∃ v', e = .returned v' ∧ Mm.OwnB w' base v' (l ++ ([36, 45, 49, 13, 10])) ∧ Below base w w' ∧ Mm.NB w w' := by
  obtain ⟨p, hp⟩ : ∃ p, p = w.heap.size := ⟨_, rfl⟩
  obtain ⟨w0, hw0⟩ : ∃ w0, w0 = w.alloc (.cells #[.int .i64 5, .string s, .int .i64 0, .slice la 0 lc] 31) := ⟨_, rfl⟩
  have HP0 : Hid (w0.heap[p]? = some (.cells #[.int .i64 5, .string s, .int .i64 0, .slice la 0 lc] 31 (0, 0))) := by
    show _ = _
    rw [hw0, hp]
    exact heap_alloc_new w _
  have HB0 : Hid (Below w.heap.size w w0) := by rw [hw0]; exact (Below.refl _ _).alloc (Nat.le_refl _) _
  have HS0 : Hid (w0.heap.size = w.heap.size + 1) := by show _ = _; rw [hw0]; simp
  have hnu : ¬ Mm.isU8 (.cells #[.int .i64 5, .string s, .int .i64 0, .slice la 0 lc] 31 (0, 0)) := by
    rintro ⟨cs, fr, e⟩
    injection e with _ e _
    exact absurd e (by decide)
  have HK : Hid (∀ V, Mm.NB w0 V → V.cell? ⟨p, 0, none⟩ = some (.int .i64 5) ∧ V.cell? ⟨p, 1, none⟩ = some (.string s)) := fun V hV => by
    have h := hV p _ HP0.out hnu
    exact ⟨Mm.cellOf h rfl, Mm.cellOf h rfl⟩
  have HO0 : Hid (Mm.OwnB w0 base v l) := ho.keep fun g hg => HB0.out.block g (ho.lt g hg).2
  have hb0 : base ≤ w0.heap.size := by rw [HS0.out]; omega
  have HBB := Pl.hid hb
  have HW0eq := Pl.hid hw0
  have HPeq := Pl.hid hp
  obtain ⟨k0, k1⟩ := HK.out w0 (Mm.NB.refl _)
  clear hw0 hp hnu ho
  go_enter Tryd.func55, Tryd.ntmps55
  go_wp2_with (at_builtin; rw [← HW0eq.out]; refine Mm.wp_appSN w0 rfl _ _ (by rfl) base v l ⟨#[36, 45, 49, 13, 10]⟩ (by rfl) (by rfl) HO0.out (by have : (⟨#[36, 45, 49, 13, 10]⟩ : ByteArray).size = 5 := rfl; omega) hb0 ?_; intro v3 w3 ho3 hb3 hn3; have HO3 := Pl.hid ho3; have HB3 := Pl.hid hb3; have HN3 := Pl.hid hn3; clear ho3 hb3 hn3)
  go_ret
  exact ⟨v3, rfl, HO3.out, (HB0.out.mono HBB.out).trans HB3.out, (Mm.NB.below HB0.out).trans HN3.out⟩
set_option maxHeartbeats 4000000 in
theorem written_7 (s : ByteArray) (most : Int) (la : Option Addr) (lc base : Nat) (v : Value) (l : List UInt8) (w : World) (hb : base ≤ w.heap.size) (ho : Mm.OwnB w base v l) (hl : l.length ≤ 1099511627776) (hs : s.size ≤ 1099511627776) :
    Calls Tryd.prog 55 #[v, .agg #[.int .i64 7, .string s, .int .i64 0, .slice la 0 lc], .int .i64 most] w fun e w' => ∃ v', e = .returned v' ∧ Mm.OwnB w' base v' (l ++ ([42, 45, 49, 13, 10])) ∧ Below base w w' ∧ Mm.NB w w' := by
  obtain ⟨p, hp⟩ : ∃ p, p = w.heap.size := ⟨_, rfl⟩
  obtain ⟨w0, hw0⟩ : ∃ w0, w0 = w.alloc (.cells #[.int .i64 7, .string s, .int .i64 0, .slice la 0 lc] 31) := ⟨_, rfl⟩
  have HP0 : Hid (w0.heap[p]? = some (.cells #[.int .i64 7, .string s, .int .i64 0, .slice la 0 lc] 31 (0, 0))) := by
    show _ = _
    rw [hw0, hp]
    exact heap_alloc_new w _
  have HB0 : Hid (Below w.heap.size w w0) := by rw [hw0]; exact (Below.refl _ _).alloc (Nat.le_refl _) _
  have HS0 : Hid (w0.heap.size = w.heap.size + 1) := by show _ = _; rw [hw0]; simp
  have hnu : ¬ Mm.isU8 (.cells #[.int .i64 7, .string s, .int .i64 0, .slice la 0 lc] 31 (0, 0)) := by
    rintro ⟨cs, fr, e⟩
    injection e with _ e _
    exact absurd e (by decide)
  have HK : Hid (∀ V, Mm.NB w0 V → V.cell? ⟨p, 0, none⟩ = some (.int .i64 7) ∧ V.cell? ⟨p, 1, none⟩ = some (.string s)) := fun V hV => by
    have h := hV p _ HP0.out hnu
    exact ⟨Mm.cellOf h rfl, Mm.cellOf h rfl⟩
  have HO0 : Hid (Mm.OwnB w0 base v l) := ho.keep fun g hg => HB0.out.block g (ho.lt g hg).2
  have hb0 : base ≤ w0.heap.size := by rw [HS0.out]; omega
  have HBB := Pl.hid hb
  have HW0eq := Pl.hid hw0
  have HPeq := Pl.hid hp
  obtain ⟨k0, k1⟩ := HK.out w0 (Mm.NB.refl _)
  clear hw0 hp hnu ho
  go_enter Tryd.func55, Tryd.ntmps55
  go_wp2_with (at_builtin; rw [← HW0eq.out]; refine Mm.wp_appSN w0 rfl _ _ (by rfl) base v l ⟨#[42, 45, 49, 13, 10]⟩ (by rfl) (by rfl) HO0.out (by have : (⟨#[42, 45, 49, 13, 10]⟩ : ByteArray).size = 5 := rfl; omega) hb0 ?_; intro v3 w3 ho3 hb3 hn3; have HO3 := Pl.hid ho3; have HB3 := Pl.hid hb3; have HN3 := Pl.hid hn3; clear ho3 hb3 hn3)
  go_ret
  exact ⟨v3, rfl, HO3.out, (HB0.out.mono HBB.out).trans HB3.out, (Mm.NB.below HB0.out).trans HN3.out⟩
set_option maxHeartbeats 4000000 in
theorem written_3 (s : ByteArray) (n : Int) (hn : Pl.In64 n) (most : Int) (la : Option Addr) (lc base : Nat) (v : Value) (l : List UInt8) (w : World) (hb : base ≤ w.heap.size) (ho : Mm.OwnB w base v l) (hl : l.length ≤ 1099511627776) (hs : s.size ≤ 1099511627776) :
    Calls Tryd.prog 55 #[v, .agg #[.int .i64 3, .string s, .int .i64 n, .slice la 0 lc], .int .i64 most] w fun e w' => ∃ v', e = .returned v' ∧ Mm.OwnB w' base v' (l ++ ([58] ++ Lib.itoa n ++ Pl.crlf)) ∧ Below base w w' ∧ Mm.NB w w' := by
  obtain ⟨p, hp⟩ : ∃ p, p = w.heap.size := ⟨_, rfl⟩
  obtain ⟨w0, hw0⟩ : ∃ w0, w0 = w.alloc (.cells #[.int .i64 3, .string s, .int .i64 n, .slice la 0 lc] 31) := ⟨_, rfl⟩
  have HP0 : Hid (w0.heap[p]? = some (.cells #[.int .i64 3, .string s, .int .i64 n, .slice la 0 lc] 31 (0, 0))) := by
    show _ = _
    rw [hw0, hp]
    exact heap_alloc_new w _
  have HB0 : Hid (Below w.heap.size w w0) := by rw [hw0]; exact (Below.refl _ _).alloc (Nat.le_refl _) _
  have HS0 : Hid (w0.heap.size = w.heap.size + 1) := by show _ = _; rw [hw0]; simp
  have hnu : ¬ Mm.isU8 (.cells #[.int .i64 3, .string s, .int .i64 n, .slice la 0 lc] 31 (0, 0)) := by
    rintro ⟨cs, fr, e⟩
    injection e with _ e _
    exact absurd e (by decide)
  have HK : Hid (∀ V, Mm.NB w0 V → V.cell? ⟨p, 0, none⟩ = some (.int .i64 3) ∧ V.cell? ⟨p, 1, none⟩ = some (.string s)) := fun V hV => by
    have h := hV p _ HP0.out hnu
    exact ⟨Mm.cellOf h rfl, Mm.cellOf h rfl⟩
  have HO0 : Hid (Mm.OwnB w0 base v l) := ho.keep fun g hg => HB0.out.block g (ho.lt g hg).2
  have hb0 : base ≤ w0.heap.size := by rw [HS0.out]; omega
  have HBB := Pl.hid hb
  have HW0eq := Pl.hid hw0
  have HPeq := Pl.hid hp
  obtain ⟨k0, k1⟩ := HK.out w0 (Mm.NB.refl _)
  obtain ⟨TX, hTX⟩ : ∃ TX, TX = Pl.B (Lib.itoa n) := ⟨_, rfl⟩
  have hTs : TX.size ≤ 21 := by rw [hTX, Pl.B_size]; exact Pl.itoa_le _ hn
  have HTW := Pl.hid (fun w' => reftext_walk n w' hn)
  rw [← hTX] at HTW
  have HE : Hid (((⟨#[58]⟩ : ByteArray) ++ TX ++ ⟨#[13, 10]⟩).size ≤ 24) := by show _ ≤ _; rw [ByteArray.size_append, ByteArray.size_append, show (⟨#[58]⟩ : ByteArray).size = 1 from rfl, show (⟨#[13, 10]⟩ : ByteArray).size = 2 from rfl]; omega
  have HE2 : Hid (Pl.L ((⟨#[58]⟩ : ByteArray) ++ TX ++ ⟨#[13, 10]⟩) = [58] ++ Lib.itoa n ++ Pl.crlf) := by
    show _ = _
    rw [hTX, show (⟨#[58]⟩ : ByteArray) = Pl.B [58] from rfl, show (⟨#[13, 10]⟩ : ByteArray) = Pl.B Pl.crlf from rfl, Pl.B_append, Pl.B_append, Pl.L_B]
  clear hw0 hp hnu ho hTX hn
  go_enter Tryd.func55, Tryd.ntmps55
  go_wp2_with (first
    | (go_at_call 69; rw [← HW0eq.out]; refine (HTW.out w0).mono ?_; rintro e w2 ⟨rfl, rfl⟩)
    | (at_builtin; refine Mm.wp_appSN w0 rfl _ _ (by rfl) base v l ((⟨#[58]⟩ : ByteArray) ++ TX ++ ⟨#[13, 10]⟩) (by rfl) (by rfl) HO0.out (by have := HE.out; omega) hb0 ?_; intro v3 w3 ho3 hb3 hn3; have HO3 := Pl.hid ho3; have HB3 := Pl.hid hb3; have HN3 := Pl.hid hn3; clear ho3 hb3 hn3))
  go_ret
  refine ⟨v3, rfl, ?_, (HB0.out.mono HBB.out).trans HB3.out, (Mm.NB.below HB0.out).trans HN3.out⟩
  have h := HO3.out
  rw [HE2.out] at h
  exact h
set_option maxHeartbeats 4000000 in
theorem written_4 (s : ByteArray) (most : Int) (la : Option Addr) (lc base : Nat) (v : Value) (l : List UInt8) (w : World) (hb : base ≤ w.heap.size) (ho : Mm.OwnB w base v l) (hl : l.length ≤ 1099511627776) (hs : s.size ≤ 1099511627776) :
    Calls Tryd.prog 55 #[v, .agg #[.int .i64 4, .string s, .int .i64 0, .slice la 0 lc], .int .i64 most] w fun e w' => ∃ v', e = .returned v' ∧ Mm.OwnB w' base v' (l ++ (Pl.bulkE (Pl.L s))) ∧ Below base w w' ∧ Mm.NB w w' := by
  obtain ⟨p, hp⟩ : ∃ p, p = w.heap.size := ⟨_, rfl⟩
  obtain ⟨w0, hw0⟩ : ∃ w0, w0 = w.alloc (.cells #[.int .i64 4, .string s, .int .i64 0, .slice la 0 lc] 31) := ⟨_, rfl⟩
  have HP0 : Hid (w0.heap[p]? = some (.cells #[.int .i64 4, .string s, .int .i64 0, .slice la 0 lc] 31 (0, 0))) := by
    show _ = _
    rw [hw0, hp]
    exact heap_alloc_new w _
  have HB0 : Hid (Below w.heap.size w w0) := by rw [hw0]; exact (Below.refl _ _).alloc (Nat.le_refl _) _
  have HS0 : Hid (w0.heap.size = w.heap.size + 1) := by show _ = _; rw [hw0]; simp
  have hnu : ¬ Mm.isU8 (.cells #[.int .i64 4, .string s, .int .i64 0, .slice la 0 lc] 31 (0, 0)) := by
    rintro ⟨cs, fr, e⟩
    injection e with _ e _
    exact absurd e (by decide)
  have HK : Hid (∀ V, Mm.NB w0 V → V.cell? ⟨p, 0, none⟩ = some (.int .i64 4) ∧ V.cell? ⟨p, 1, none⟩ = some (.string s)) := fun V hV => by
    have h := hV p _ HP0.out hnu
    exact ⟨Mm.cellOf h rfl, Mm.cellOf h rfl⟩
  have HO0 : Hid (Mm.OwnB w0 base v l) := ho.keep fun g hg => HB0.out.block g (ho.lt g hg).2
  have hb0 : base ≤ w0.heap.size := by rw [HS0.out]; omega
  have HBB := Pl.hid hb
  have HW0eq := Pl.hid hw0
  have HPeq := Pl.hid hp
  obtain ⟨k0, k1⟩ := HK.out w0 (Mm.NB.refl _)
  obtain ⟨TX, hTX⟩ : ∃ TX, TX = Pl.B (Lib.itoa (s.size : Int)) := ⟨_, rfl⟩
  have hTs : TX.size ≤ 21 := by rw [hTX, Pl.B_size]; exact Pl.itoa_le _ (by unfold Pl.In64; omega)
  have HTW := Pl.hid (fun w' => reftext_walk (s.size : Int) w' (by unfold Pl.In64; omega))
  rw [← hTX] at HTW
  obtain ⟨X, hX⟩ : ∃ X, X = (⟨#[36]⟩ : ByteArray) ++ TX ++ ⟨#[13, 10]⟩ := ⟨_, rfl⟩
  have HE : Hid (X.size ≤ 24) := by show _ ≤ _; rw [hX, ByteArray.size_append, ByteArray.size_append, show (⟨#[36]⟩ : ByteArray).size = 1 from rfl, show (⟨#[13, 10]⟩ : ByteArray).size = 2 from rfl]; omega
  have HE2 : Hid (l ++ Pl.L X ++ Pl.L s ++ Pl.L ⟨#[13, 10]⟩ = l ++ Pl.bulkE (Pl.L s)) := by
    show _ = _
    rw [hX, hTX, show (⟨#[36]⟩ : ByteArray) = Pl.B [36] from rfl, show (⟨#[13, 10]⟩ : ByteArray) = Pl.B Pl.crlf from rfl, Pl.B_append, Pl.B_append, Pl.L_B, Pl.L_B, Pl.itoa_pos (by omega)]
    unfold Pl.bulkE
    rw [Pl.L_length]
    simp
  have HL1 : Hid ((l ++ Pl.L X).length ≤ 1099511627800) := by show _ ≤ _; rw [List.length_append, Pl.L_length]; have := HE.out; omega
  have HL2 : Hid ((l ++ Pl.L X ++ Pl.L s).length ≤ 2199023255600) := by show _ ≤ _; have := HL1.out; rw [List.length_append, Pl.L_length]; omega
  have HX := Pl.hid hX
  clear hw0 hp hnu ho hTX hX
  go_enter Tryd.func55, Tryd.ntmps55
  go_wp2_with (first
    | (go_at_call 69; rw [← HW0eq.out]; refine (HTW.out w0).mono ?_; rintro e w2 ⟨rfl, rfl⟩; rw [← HPeq.out])
    | (at_builtin; refine Mm.wp_appSN w0 rfl _ _ (by rfl) base v l X (by rfl) (by exact congrArg Value.string HX.out.symm) HO0.out (by have := HE.out; omega) hb0 ?_; intro v3 w3 ho3 hb3 hn3; have HO3 := Pl.hid ho3; have HB3 := Pl.hid hb3; have HN3 := Pl.hid hn3; clear ho3 hb3 hn3 k0 k1; obtain ⟨k0, k1⟩ := HK.out w3 HN3.out)
    | (at_builtin; refine Mm.wp_appSN w3 rfl _ _ (by rfl) base v3 (l ++ Pl.L X) s (by rfl) (by rfl) HO3.out (by have := HL1.out; omega) (Nat.le_trans hb0 HB3.out.size) ?_; intro v4 w4 ho4 hb4 hn4; have HO4 := Pl.hid ho4; have HB4 := Pl.hid (HB3.out.trans hb4); have HN4 := Pl.hid (HN3.out.trans hn4); clear ho4 hb4 hn4)
    | (at_builtin; refine Mm.wp_appSN w4 rfl _ _ (by rfl) base v4 (l ++ Pl.L X ++ Pl.L s) ⟨#[13, 10]⟩ (by rfl) (by rfl) HO4.out (by have := HL2.out; have : (⟨#[13, 10]⟩ : ByteArray).size = 2 := rfl; omega) (Nat.le_trans hb0 HB4.out.size) ?_; intro v5 w5 ho5 hb5 hn5; have HO5 := Pl.hid ho5; have HB5 := Pl.hid (HB4.out.trans hb5); have HN5 := Pl.hid (HN4.out.trans hn5); clear ho5 hb5 hn5))
  go_ret
  refine ⟨v5, rfl, ?_, (HB0.out.mono HBB.out).trans HB5.out, (Mm.NB.below HB0.out).trans HN5.out⟩
  have h := HO5.out
  rw [HE2.out] at h
  exact h
end Go.Proofs.YtakldjdohgmeiaaDoor

namespace Go.Proofs.YtakldjdohgmeiaaDoor
open Go.RowKit
set_option maxRecDepth 20000

set_option maxHeartbeats 8000000 in
theorem written_walk (W : World) (most : Int) : ∀ (t : RT), t.ok = true → t.In → t.sz ≤ 1073741824 → ∀ (c0 c1 c2 c3 : Value), Mm.RepX W t [c0, c1, c2, c3] → ∀ (base : Nat) (v : Value) (l : List UInt8) (w : World), Below W.heap.size W w → W.heap.size ≤ base → base ≤ w.heap.size → Mm.OwnB w base v l →
    l.length + t.enc.length ≤ 1099511627776 →
    Calls Tryd.prog 55 #[v, .agg #[c0, c1, c2, c3], .int .i64 most] w fun e w' => ∃ v' r, e = .returned v' ∧ Mm.OwnB w' base v' r ∧ (r = l ++ t.enc ∨ most < (r.length : Int)) ∧ r.length ≤ l.length + t.enc.length ∧ Below base w w' ∧ Mm.NB w w' := by
  intro t
  induction t using RT.ind with
  | h k s nn ts ih =>
  intro hok hin hsz c0 c1 c2 c3 hX base v l w hW hWb hb ho hl
  obtain ⟨la, lc, hcs, hel⟩ := hX.open
  simp only [List.cons.injEq, and_true] at hcs
  obtain ⟨rfl, rfl, rfl, rfl⟩ := hcs
  rw [RT.ok_mk, Bool.and_eq_true] at hok
  rw [RT.enc_mk] at hl ⊢
  rw [RT.sz_mk] at hsz
  have hllen : l.length ≤ 1099511627776 := by omega
  have nilc : ts.length = 0 → RT.encL ts = [] := fun h => by rw [List.eq_nil_of_length_eq_zero h]; simp [RT.encL]
  rcases RT.okHead_cases hok.1 with ⟨rfl, h2, rfl, h4⟩ | ⟨rfl, h2, rfl, h4⟩ | ⟨rfl, h2, h4⟩ | ⟨rfl, rfl, h4⟩ | ⟨rfl, h2, rfl, h4⟩ | ⟨rfl, h2, rfl, h4⟩ | ⟨rfl, rfl, rfl⟩
  · rw [nilc h4, h4]
    refine (written_1 s most la lc base v l w hb ho hllen (by omega)).mono ?_
    rintro e w' ⟨v', rfl, h1, h2, h3⟩
    exact ⟨v', _, rfl, h1, .inl (by simp [RT.encH]), Nat.le_of_eq (by simp [RT.encH]), h2, h3⟩
  · rw [nilc h4, h4]
    refine (written_2 s most la lc base v l w hb ho hllen (by omega)).mono ?_
    rintro e w' ⟨v', rfl, h1, h2, h3⟩
    exact ⟨v', _, rfl, h1, .inl (by simp [RT.encH]), Nat.le_of_eq (by simp [RT.encH]), h2, h3⟩
  · rw [nilc h4, h4]
    refine (written_3 s nn hin.num most la lc base v l w hb ho hllen (by omega)).mono ?_
    rintro e w' ⟨v', rfl, h1, h2, h3⟩
    exact ⟨v', _, rfl, h1, .inl (by simp [RT.encH]), Nat.le_of_eq (by simp [RT.encH]), h2, h3⟩
  · rw [nilc h4, h4]
    refine (written_4 s most la lc base v l w hb ho hllen (by omega)).mono ?_
    rintro e w' ⟨v', rfl, h1, h2, h3⟩
    exact ⟨v', _, rfl, h1, .inl (by simp [RT.encH]), Nat.le_of_eq (by simp [RT.encH]), h2, h3⟩
  · rw [nilc h4, h4]
    refine (written_5 s most la lc base v l w hb ho hllen (by omega)).mono ?_
    rintro e w' ⟨v', rfl, h1, h2, h3⟩
    exact ⟨v', _, rfl, h1, .inl (by simp [RT.encH]), Nat.le_of_eq (by simp [RT.encH]), h2, h3⟩
  · rw [nilc h4, h4]
    refine (written_7 s most la lc base v l w hb ho hllen (by omega)).mono ?_
    rintro e w' ⟨v', rfl, h1, h2, h3⟩
    exact ⟨v', _, rfl, h1, .inl (by simp [RT.encH]), Nat.le_of_eq (by simp [RT.encH]), h2, h3⟩
  obtain ⟨n, hnn⟩ : ∃ n, n = ts.length := ⟨_, rfl⟩
  have hel' : n = 0 ∨ ∃ b, la = some ⟨b, 0, none⟩ ∧ b < W.heap.size ∧ ∀ (i : Nat) (hi : i < ts.length), ∃ f0 f1 f2 f3, W.cell? ⟨b, i * 4, none⟩ = some f0 ∧ W.cell? ⟨b, i * 4 + 1, none⟩ = some f1 ∧ W.cell? ⟨b, i * 4 + 2, none⟩ = some f2 ∧ W.cell? ⟨b, i * 4 + 3, none⟩ = some f3 ∧ Mm.RepX W (ts[i]'hi) [f0, f1, f2, f3] := by
    rw [hnn]
    exact hel
  clear hel
  rw [← hnn]
  have hE : RT.encH 6 ⟨#[]⟩ 0 n = [42] ++ Lib.decDigits n ++ Pl.crlf := rfl
  rw [hE]
  rw [← hnn, hE] at hl
  obtain ⟨p, hp⟩ : ∃ p, p = w.heap.size := ⟨_, rfl⟩
  obtain ⟨w0, hw0⟩ : ∃ w0, w0 = w.alloc (.cells #[.int .i64 6, .string ⟨#[]⟩, .int .i64 0, .slice la n lc] 31) := ⟨_, rfl⟩
  have HP0 : Hid (w0.heap[p]? = some (.cells #[.int .i64 6, .string ⟨#[]⟩, .int .i64 0, .slice la n lc] 31 (0, 0))) := by
    show _ = _
    rw [hw0, hp]
    exact heap_alloc_new w _
  have HB0 : Hid (Below w.heap.size w w0) := by rw [hw0]; exact (Below.refl _ _).alloc (Nat.le_refl _) _
  have HS0 : Hid (w0.heap.size = w.heap.size + 1) := by show _ = _; rw [hw0]; simp
  have hnu : ¬ Mm.isU8 (.cells #[.int .i64 6, .string ⟨#[]⟩, .int .i64 0, .slice la n lc] 31 (0, 0)) := by
    rintro ⟨cs, fr, e⟩
    injection e with _ e _
    exact absurd e (by decide)
  have HK : Hid (∀ V, Mm.NB w0 V → V.cell? ⟨p, 0, none⟩ = some (.int .i64 6) ∧ V.cell? ⟨p, 3, none⟩ = some (.slice la n lc)) := fun V hV => by
    have h := hV p _ HP0.out hnu
    exact ⟨Mm.cellOf h rfl, Mm.cellOf h rfl⟩
  have HO0 : Hid (Mm.OwnB w0 base v l) := ho.keep fun g hg => HB0.out.block g (ho.lt g hg).2
  have HW := Pl.hid hW
  have HWb := Pl.hid hWb
  have hb0 : base ≤ w0.heap.size := by rw [HS0.out]; omega
  have HBB := Pl.hid hb
  have HEL := Pl.hid hel'
  have HNN := Pl.hid hnn
  have HLL := Pl.hid hl
  have HOK := Pl.hid ((RT.okL_iff ts).1 hok.2)
  have HIN := Pl.hid hin.list
  have IH := Pl.hid ih
  have HSZ : Hid (∀ t ∈ ts, t.sz ≤ 1073741824) := fun t ht => by have := RT.szL_mem ht; omega
  have hn' : n ≤ 1099511627776 := by have := RT.szL_len ts; omega
  obtain ⟨k0, k3⟩ := HK.out w0 (Mm.NB.refl _)
  have HW0eq := Pl.hid hw0
  have HPeq := Pl.hid hp
  obtain ⟨TX, hTX⟩ : ∃ TX, TX = Pl.B (Lib.itoa (n : Int)) := ⟨_, rfl⟩
  have hTs : TX.size ≤ 21 := by rw [hTX, Pl.B_size]; exact Pl.itoa_le _ (by unfold Pl.In64; omega)
  have HTX : Hid (TX = Pl.B (Lib.decDigits n)) := by
    show _ = _
    rw [hTX, Pl.itoa_pos (by omega)]
    rfl
  have HTW := Pl.hid (fun w' => reftext_walk (n : Int) w' (by unfold Pl.In64; omega))
  rw [← hTX] at HTW
  obtain ⟨X, hXX⟩ : ∃ X, X = (⟨#[42]⟩ : ByteArray) ++ TX ++ ⟨#[13, 10]⟩ := ⟨_, rfl⟩
  have HE : Hid (X.size ≤ 24) := by show _ ≤ _; rw [hXX, ByteArray.size_append, ByteArray.size_append, show (⟨#[42]⟩ : ByteArray).size = 1 from rfl, show (⟨#[13, 10]⟩ : ByteArray).size = 2 from rfl]; omega
  have HE2 : Hid (l ++ Pl.L X = l ++ ([42] ++ Lib.decDigits n ++ Pl.crlf)) := by
    show _ = _
    rw [hXX, HTX.out, show (⟨#[42]⟩ : ByteArray) = Pl.B [42] from rfl, show (⟨#[13, 10]⟩ : ByteArray) = Pl.B Pl.crlf from rfl, Pl.B_append, Pl.B_append, Pl.L_B]
  have HX := Pl.hid hXX
  clear hTX hw0 hp hnu ho hW hX hel' hnn hl hok hin ih hsz hE nilc hXX
  go_enter Tryd.func55, Tryd.ntmps55
  go_wp2_with (first
    | (go_at_call 69; rw [← HW0eq.out]; refine (HTW.out w0).mono ?_; rintro e w2 ⟨rfl, rfl⟩; rw [← HPeq.out])
    | (at_builtin; refine Mm.wp_appSN w0 rfl _ _ (by rfl) base v l X (by rfl) (by exact congrArg Value.string HX.out.symm) HO0.out (by have := HE.out; omega) hb0 ?_; intro v3 w3 ho3 hb3 hn3; rw [HE2.out] at ho3; have HO3 := Pl.hid ho3; have HB3 := Pl.hid hb3; have HN3 := Pl.hid hn3; clear ho3 hb3 hn3 k0 k3; obtain ⟨k0, k3⟩ := HK.out w3 HN3.out))
  have HB03 : Hid (Below base w w3) := (HB0.out.mono HBB.out).trans HB3.out
  clear k0 k3
  go_loopw [82, 0] (fun iv bvv wr => ∃ (i : Nat) (bv : Value) (r : List UInt8), iv = .int .i64 i ∧ bv = bvv ∧ i ≤ n ∧ Hid (Mm.OwnB wr base bv r) ∧ Hid (r = l ++ ([42] ++ Lib.decDigits n ++ Pl.crlf) ++ RT.encL (ts.take i) ∨ most < (r.length : Int)) ∧ Hid (r.length ≤ (l ++ ([42] ++ Lib.decDigits n ++ Pl.crlf) ++ RT.encL (ts.take i)).length) ∧ Hid (Below base w wr) ∧ Hid (Mm.NB w0 wr)) (fun iv _ _ => n - (intOf iv).toNat)
  case atStart => exact ⟨0, _, _, rfl, rfl, Nat.zero_le _, HO3.out, .inl (by rw [List.take_zero, show RT.encL [] = [] by simp [RT.encL], List.append_nil]), by show _ ≤ _; rw [List.take_zero, show RT.encL [] = [] by simp [RT.encL], List.append_nil]; exact Nat.le_refl _, HB03.out, HN3.out⟩
  case round =>
    obtain ⟨i, bv, r, rfl, rfl, hi, HO, HR, HRL, HB, HN⟩ := hrel
    rcases Nat.lt_or_ge i n with hlt | hge
    · rcases HEL.out with h0 | ⟨blk, rfl, hbl, hel⟩
      · omega
      have hlt' : i < ts.length := by rw [← HNN.out]; exact hlt
      obtain ⟨f0, f1, f2, f3, g0, g1, g2, g3, hrep⟩ := hel i hlt'
      have HWr : Hid (Below W.heap.size W wr) := HW.out.trans (HB.out.mono HWb.out)
      have e0 := (HWr.out.cell (p := ⟨blk, i * 4, none⟩) hbl).trans g0
      have e1 := (HWr.out.cell (p := ⟨blk, i * 4 + 1, none⟩) hbl).trans g1
      have e2 := (HWr.out.cell (p := ⟨blk, i * 4 + 2, none⟩) hbl).trans g2
      have e3 := (HWr.out.cell (p := ⟨blk, i * 4 + 3, none⟩) hbl).trans g3
      have HREP := Pl.hid hrep
      have HLT := Pl.hid hlt'
      clear g0 g1 g2 g3 hrep hel
      obtain ⟨q, hq⟩ : ∃ q, q = wr.heap.size := ⟨_, rfl⟩
      have HQ := Pl.hid hq
      clear hq
      obtain ⟨ba, bk, hbv, _⟩ := HO.out.val
      subst hbv
      have hrl : r.length ≤ 1099511627776 := by
        have h1 := RT.encL_le ts i
        have h2 := HLL.out
        have h3 := HRL.out
        simp only [List.length_append] at h1 h2 h3 ⊢
        omega
      by_cases hm : most < (r.length : Int)
      · go_wp2_with (refine Mm.wp_store4 _ rfl _ _ rfl wr.heap.size _ _ _ _ _ _ (heap_alloc_new wr _) rfl rfl rfl HREP.out.one ?_; intro w4 hw4 hs4 hg4; have HW4 := Pl.hid hw4; have HG4 := Pl.hid hg4; have HS4 := Pl.hid hs4; clear hw4 hs4 hg4; have q0 := Mm.cellOf (i := 0) (v := f0) HW4.out rfl; have q1 := Mm.cellOf (i := 1) (v := f1) HW4.out rfl; have q2 := Mm.cellOf (i := 2) (v := f2) HW4.out rfl; have q3 := Mm.cellOf (i := 3) (v := f3) HW4.out rfl; clear e0 e1 e2 e3)
        have HN4 : Hid (Mm.NB w0 w4) := by
          refine HN.out.trans fun g o hg _ => ?_
          have hgl := (Array.getElem?_eq_some_iff.1 hg).1
          exact (HG4.out.block g (by simp; omega) (fun e => by injection e with e; omega)).trans ((Below.heap_alloc _ _ _ hgl).trans hg)
        have HB4 : Hid (Below base w w4) := by
          have hz : base ≤ wr.heap.size := Nat.le_trans HBB.out HB.out.size
          refine (HB.out.alloc hz (.cells #[.int .i64 0, .string ⟨#[]⟩, .int .i64 0, .slice none 0 0] 31)).grown HG4.out (by simp; omega) (fun k hk => by injection hk with hk; omega)
        have HO4 : Hid (Mm.OwnB w4 base (.slice ba r.length bk) r) := (HO.out.keep (w' := wr.alloc (.cells #[.int .i64 0, .string ⟨#[]⟩, .int .i64 0, .slice none 0 0] 31)) (fun g hg => Below.heap_alloc _ _ _ (HO.out.lt g hg).2)).keep fun g hg => HG4.out.block g (by have := (HO.out.lt g hg).2; simp; omega) (fun e => by injection e with e; have := (HO.out.lt g hg).2; omega)
        have hb4 : base ≤ w4.heap.size := Nat.le_trans HBB.out HB4.out.size
        have HLEN4 : Hid (r.length + (ts[i]'HLT.out).enc.length ≤ 1099511627776) := by
          have h1 := RT.encL_le ts (i + 1)
          have h2 := HLL.out
          have h3 := HRL.out
          rw [RT.encL_take ts i HLT.out] at h1
          show _ ≤ _
          simp only [List.length_append] at h1 h2 h3 ⊢
          omega
        have HTOT : Hid ((l ++ ([42] ++ Lib.decDigits n ++ Pl.crlf) ++ RT.encL (ts.take i)).length ≤ l.length + ([42] ++ Lib.decDigits n ++ Pl.crlf ++ RT.encL ts).length) := by
          have h1 := RT.encL_le ts i
          show _ ≤ _
          simp only [List.length_append] at h1 ⊢
          omega
        clear q0 q1 q2 q3
        go_ret
        refine ⟨_, r, rfl, HO4.out, .inr hm, ?_, HB4.out, (Mm.NB.below HB0.out).trans HN4.out⟩
        have h1 := HRL.out
        have h2 := HTOT.out
        refine Nat.le_trans h1 (Nat.le_trans h2 (Nat.le_of_eq ?_))
        simp
      · go_wp2_with (refine Mm.wp_store4 _ rfl _ _ rfl wr.heap.size _ _ _ _ _ _ (heap_alloc_new wr _) rfl rfl rfl HREP.out.one ?_; intro w4 hw4 hs4 hg4; have HW4 := Pl.hid hw4; have HG4 := Pl.hid hg4; have HS4 := Pl.hid hs4; clear hw4 hs4 hg4; have q0 := Mm.cellOf (i := 0) (v := f0) HW4.out rfl; have q1 := Mm.cellOf (i := 1) (v := f1) HW4.out rfl; have q2 := Mm.cellOf (i := 2) (v := f2) HW4.out rfl; have q3 := Mm.cellOf (i := 3) (v := f3) HW4.out rfl; clear e0 e1 e2 e3)
        have HN4 : Hid (Mm.NB w0 w4) := by
          refine HN.out.trans fun g o hg _ => ?_
          have hgl := (Array.getElem?_eq_some_iff.1 hg).1
          exact (HG4.out.block g (by simp; omega) (fun e => by injection e with e; omega)).trans ((Below.heap_alloc _ _ _ hgl).trans hg)
        have HB4 : Hid (Below base w w4) := by
          have hz : base ≤ wr.heap.size := Nat.le_trans HBB.out HB.out.size
          refine (HB.out.alloc hz (.cells #[.int .i64 0, .string ⟨#[]⟩, .int .i64 0, .slice none 0 0] 31)).grown HG4.out (by simp; omega) (fun k hk => by injection hk with hk; omega)
        have HO4 : Hid (Mm.OwnB w4 base (.slice ba r.length bk) r) := (HO.out.keep (w' := wr.alloc (.cells #[.int .i64 0, .string ⟨#[]⟩, .int .i64 0, .slice none 0 0] 31)) (fun g hg => Below.heap_alloc _ _ _ (HO.out.lt g hg).2)).keep fun g hg => HG4.out.block g (by have := (HO.out.lt g hg).2; simp; omega) (fun e => by injection e with e; have := (HO.out.lt g hg).2; omega)
        have hb4 : base ≤ w4.heap.size := Nat.le_trans HBB.out HB4.out.size
        have HLEN4 : Hid (r.length + (ts[i]'HLT.out).enc.length ≤ 1099511627776) := by
          have h1 := RT.encL_le ts (i + 1)
          have h2 := HLL.out
          have h3 := HRL.out
          rw [RT.encL_take ts i HLT.out] at h1
          show _ ≤ _
          simp only [List.length_append] at h1 h2 h3 ⊢
          omega
        have HTOT : Hid ((l ++ ([42] ++ Lib.decDigits n ++ Pl.crlf) ++ RT.encL (ts.take i)).length ≤ l.length + ([42] ++ Lib.decDigits n ++ Pl.crlf ++ RT.encL ts).length) := by
          have h1 := RT.encL_le ts i
          show _ ≤ _
          simp only [List.length_append] at h1 ⊢
          omega
        refine (IH.out _ (List.getElem_mem HLT.out) (HOK.out _ (List.getElem_mem HLT.out)) (HIN.out _ (List.getElem_mem HLT.out)) (HSZ.out _ (List.getElem_mem HLT.out)) f0 f1 f2 f3 HREP.out base _ r w4 (HW.out.trans (HB4.out.mono HWb.out)) HWb.out hb4 HO4.out HLEN4.out).mono ?_
        rintro e w5 ⟨v5, r5, rfl, ho5, hr5, hl5, hb5, hn5⟩
        have HO5 := Pl.hid ho5
        have HB5 := Pl.hid (HB4.out.trans hb5)
        have HN5 := Pl.hid (HN4.out.trans hn5)
        have HR5 : Hid (r5 = l ++ ([42] ++ Lib.decDigits n ++ Pl.crlf) ++ RT.encL (ts.take (i + 1)) ∨ most < (r5.length : Int)) := by
          rcases hr5 with h | h
          · rcases HR.out with h' | h'
            · exact .inl (by rw [h, h', RT.encL_take ts i HLT.out]; simp)
            · exact .inr (by rw [h, List.length_append]; omega)
          · exact .inr h
        have HL5 : Hid (r5.length ≤ (l ++ ([42] ++ Lib.decDigits n ++ Pl.crlf) ++ RT.encL (ts.take (i + 1))).length) := by
          have h1 := HRL.out
          show _ ≤ _
          rw [RT.encL_take ts i HLT.out]
          simp only [List.length_append] at h1 ⊢
          omega
        clear ho5 hb5 hn5 hr5 hl5 q0 q1 q2 q3 hm
        go_wp2_with fail
        go_roundw
        case rel => exact ⟨i + 1, v5, r5, by go_num, rfl, by omega, HO5, HR5, HL5, HB5, HN5⟩
        case measure => simp [intOf]; omega
    · obtain rfl : i = n := by omega
      go_wp2_with fail
      go_ret
      have h := HR.out
      have h2 := HRL.out
      rw [HNN.out, List.take_length] at h h2
      rw [← HNN.out] at h h2
      exact ⟨_, r, rfl, HO.out, h.imp (fun e => by simpa using e) id, by simpa using h2, HB.out, (Mm.NB.below HB0.out).trans HN.out⟩
end Go.Proofs.YtakldjdohgmeiaaDoor

namespace Go.Proofs.YtakldjdohgmeiaaDoor
open Go.RowKit
set_option maxRecDepth 20000

theorem Mm.OwnB.baseO {w : World} {b b' : Nat} {v : Value} {l : List UInt8} (h : Mm.OwnB w b v l) (hb : b' ≤ b) : Mm.OwnB w b' v l := by
  obtain ⟨hl, h0 | ⟨g, cap, cur, hv, hg, r⟩⟩ := h
  · exact ⟨hl, .inl h0⟩
  · exact ⟨hl, .inr ⟨g, cap, cur, hv, Nat.le_trans hb hg, r⟩⟩
set_option maxHeartbeats 8000000 in
theorem bulksO_walk (v : Value) (ws : List (List UInt8)) (w : World) (hv : Mm.RowT w v ws) (hn : ws.length ≤ 1048576) (hs : ∀ s ∈ ws, s.length ≤ 1048576) :
    Calls Tryd.prog 13 #[v] w fun e w' => ∃ c0 c1 c2 c3, e = .returned (.agg #[c0, c1, c2, c3]) ∧ Mm.OwnT w' w.heap.size (Pl.reqT ws) [c0, c1, c2, c3] ∧ Below w.heap.size w w' := by
  obtain ⟨a, c, rfl, hc, hcell⟩ := hv
  obtain ⟨n, hnn⟩ : ∃ n, n = ws.length := ⟨_, rfl⟩
  rw [← hnn] at hc hcell hn ⊢
  have HNN := Pl.hid hnn
  have HCELL := Pl.hid hcell
  have HSS := Pl.hid hs
  clear hcell hnn hs
  go_enter Tryd.func13, Tryd.ntmps13
  go_wp2_with fail
  generalize hw3 : World.alloc _ _ = w3
  obtain ⟨p, hp⟩ : ∃ p, p = w.heap.size + 1 := ⟨_, rfl⟩
  obtain ⟨r, hr⟩ : ∃ r, r = w.heap.size := ⟨_, rfl⟩
  have HP3 : Hid (w3.heap[p]? = some (.cells #[.int .i64 6, .string ⟨#[]⟩, .int .i64 0, .slice none 0 0] 31 (0, 0))) := by
    show _ = _
    rw [← hw3, hp]
    have := heap_alloc_new (w.alloc (.cells #[.int .i64 0, .string ⟨#[]⟩, .int .i64 0, .slice none 0 0] 31)) (.cells #[.int .i64 6, .string ⟨#[]⟩, .int .i64 0, .slice none 0 0] 31)
    simpa using this
  have HR3 : Hid (w3.heap[r]? = some (.cells #[.int .i64 0, .string ⟨#[]⟩, .int .i64 0, .slice none 0 0] 31 (0, 0))) := by
    show _ = _
    rw [← hw3, hr, Below.heap_alloc _ _ _ (by simp)]
    exact heap_alloc_new w _
  have HB3 : Hid (Below w.heap.size w w3) := by rw [← hw3]; exact ((Below.refl _ _).alloc (Nat.le_refl _) _).alloc (by simp) _
  have HS3 : Hid (w3.heap.size = w.heap.size + 2) := by show _ = _; rw [← hw3]; simp
  have HPR : Hid (p = w.heap.size + 1 ∧ r = w.heap.size) := ⟨hp, hr⟩
  obtain ⟨lo, hlo⟩ : ∃ lo, lo = w3.heap.size := ⟨_, rfl⟩
  have HLO : Hid (lo = w.heap.size + 2 ∧ lo = w3.heap.size) := ⟨hlo.trans HS3.out, hlo⟩
  rw [← hp, ← hr]
  clear hw3 hp hr hlo
  go_loopw [9] (fun iv wr => ∃ (i : Nat) (lv : Value), iv = .int .i64 i ∧ i ≤ n ∧ Hid (wr.heap[p]? = some (.cells #[.int .i64 6, .string ⟨#[]⟩, .int .i64 0, lv] 31 (0, 0))) ∧
      Hid (wr.heap[r]? = some (.cells #[.int .i64 0, .string ⟨#[]⟩, .int .i64 0, .slice none 0 0] 31 (0, 0))) ∧ Hid (Mm.OwnL wr lo lv ((ws.take i).map Pl.bulkT)) ∧ Hid (Below w.heap.size w wr ∧ lo ≤ wr.heap.size)) (fun iv _ => n - (intOf iv).toNat)
  case atStart => exact ⟨0, .slice none 0 0, rfl, Nat.zero_le _, HP3, HR3, Mm.OwnL.nil w3 lo, HB3.out, Nat.le_of_eq HLO.out.2⟩
  case round =>
    obtain ⟨i, lv, rfl, hi, HP, HR, HO, HBr⟩ := hrel
    rcases Nat.lt_or_ge i n with hlt | hge
    · obtain ⟨g, o, rfl, hm⟩ := HCELL.out (by omega)
      obtain ⟨s, hs⟩ : ∃ s, ws[i]? = some s := ⟨_, List.getElem?_eq_getElem (by rw [← HNN.out]; exact hlt)⟩
      have hc0 := hm i s hs
      have hcs := (HBr.out.1.cell (p := ⟨g, o + i, none⟩) (World.block_lt_of_cell? _ _ hc0)).trans hc0
      have HS := Pl.hid hs
      have hpl : p < wr.heap.size := (Array.getElem?_eq_some_iff.1 HP.out).1
      have HPLT := Pl.hid hpl
      have HLN : Hid (((ws.take i).map Pl.bulkT).length < 1073741824) := by show _ < _; rw [List.length_map, List.length_take]; omega
      have p3 : wr.cell? ⟨p, 3, none⟩ = some lv := Mm.cellOf HP.out rfl
      have ST5 : Hid (∀ (w5 : World), Below wr.heap.size wr w5 → w5.cell? ⟨p, 3, none⟩ = some lv ∧ (w5.alloc (.cells #[.int .i64 4, .string (Pl.B s), .int .i64 0, .slice none 0 0] 31)).cell? ⟨p, 3, none⟩ = some lv ∧
          Hid (Mm.OwnT w5 wr.heap.size (Pl.bulkT s) [.int .i64 4, .string (Pl.B s), .int .i64 0, .slice none 0 0]) ∧ Hid (Below wr.heap.size wr w5) ∧ Hid (w5.heap[p]? = some (.cells #[.int .i64 6, .string ⟨#[]⟩, .int .i64 0, lv] 31 (0, 0))) ∧ Hid (w5.heap[r]? = some (.cells #[.int .i64 0, .string ⟨#[]⟩, .int .i64 0, .slice none 0 0] 31 (0, 0)))) := fun w5 hb => by
        have h5 := (hb.block p HPLT.out).trans HP.out
        have c5 : w5.cell? ⟨p, 3, none⟩ = some lv := Mm.cellOf h5 rfl
        exact ⟨c5, (World.cell?_alloc_old _ _ _ (Nat.ne_of_lt (Nat.lt_of_lt_of_le HPLT.out hb.size))).trans c5, (Mm.OwnL.nil w5 wr.heap.size).rep 4 (Pl.B s) 0, hb, h5, (hb.block r (Array.getElem?_eq_some_iff.1 HR.out).1).trans HR.out⟩
      have ST6 : Hid (∀ (w5 w6 : World), w5.heap[p]? = some (.cells #[.int .i64 6, .string ⟨#[]⟩, .int .i64 0, lv] 31 (0, 0)) → Below lo w5 w6 → w6.cell? ⟨p, 3, none⟩ = some lv ∧ w6.frozen? ⟨p, 3, none⟩ = false) := fun w5 w6 h5 hb => by
        have h6 := (hb.block p (by have := HLO.out; have := HPR.out; omega)).trans h5
        exact ⟨Mm.cellOf h6 rfl, Mm.frozenOf h6⟩
      clear hm hc0 hs
      go_wp2_with fail
      clear hcs
      go_region_law (first
        | (go_simp; go_at_call 31; refine (mk_bulk (Pl.B s) _).mono ?_; rintro e w5 ⟨rfl, hb5⟩; obtain ⟨p5, p5a, HT5, HB5, HP5, HR5⟩ := ST5.out w5 (by first | exact hb5 | exact Mm.undrew hb5); clear hb5)
        | (refine Mm.step_appR _ (by rfl) _ _ (by rfl) wr w5 lo lv ((ws.take i).map Pl.bulkT) (by rfl) HO.out (Pl.bulkT s) [.int .i64 4, .string (Pl.B s), .int .i64 0, .slice none 0 0] HT5.out (by rfl) (by rfl) HB5.out HLN.out HBr.out.2 ?_; intro v6 w6 ho6 hb6 _; obtain ⟨a6, k6, rfl⟩ := ho6.val; obtain ⟨p6, pf6⟩ := ST6.out w5 w6 HP5.out hb6; have HO6 := Pl.hid ho6; have HB6 := Pl.hid hb6; clear ho6 hb6))
      all_goals
        have HV : Hid (((ws.take i).map Pl.bulkT ++ [Pl.bulkT s]).length = min i ws.length + 1) := by show _ = _; simp
        have HVT : Hid ((ws.take i).map Pl.bulkT ++ [Pl.bulkT s] = (ws.take (i + 1)).map Pl.bulkT) := by show _ = _; rw [List.take_add_one, HS.out]; simp
        have HO6' : Hid (Mm.OwnL w6 lo (.slice a6 (min i ws.length + 1) k6) ((ws.take (i + 1)).map Pl.bulkT)) := by
          have := HO6.out
          rw [HV.out, HVT.out] at this
          exact this
        have HP7 := Pl.hid (Mm.heapSet ((HB6.out.block p (by have := HLO.out; have := HPR.out; omega)).trans HP5.out) 3 (.slice a6 (min i ws.length + 1) k6))
        have HG7 := Pl.hid (Mm.grownSet w6 p 3 (.slice a6 (min i ws.length + 1) k6))
        generalize World.setCell w6 _ _ = w7 at HP7 HG7 ⊢
        clear p6 pf6 p5 p5a p3 HO6
        go_wp2_with fail
        have hlo := HLO.out
        have hpr := HPR.out
        have h5z := HB5.out.size
        have h6z := HB6.out.size
        have hbr := HBr.out.2
        refine ⟨⟨i + 1, _, by go_num, hlt, HP7, ?_, ?_, ?_⟩, by simp [intOf]; omega⟩
        · show _ = _
          have hrl := (Array.getElem?_eq_some_iff.1 HR.out).1
          rw [HG7.out.block r (by omega) (by intro e; cases e; omega), HB6.out.block r (by omega)]
          exact HR5.out
        · exact HO6'.out.keepLo fun g hg hgl => HG7.out.block g hgl (by intro e; cases e; omega)
        · refine ⟨(HBr.out.1.trans (((HB5.out.mono (by omega)).trans (HB6.out.mono (by omega))))).grown HG7.out (by have := HBr.out.1.size; omega) (fun k hk => by cases hk; omega), ?_⟩
          have := HG7.out.size
          omega
    · have hie : i = n := by omega
      subst hie
      have HO' : Hid (Mm.OwnL wr lo lv (ws.map Pl.bulkT)) := by have := HO.out; rw [HNN.out, List.take_length] at this; exact this
      have p0 := Mm.cellOf (i := 0) (v := .int .i64 6) HP.out rfl
      have p1 := Mm.cellOf (i := 1) (v := .string ⟨#[]⟩) HP.out rfl
      have p2 := Mm.cellOf (i := 2) (v := .int .i64 0) HP.out rfl
      have p3 := Mm.cellOf (i := 3) (v := lv) HP.out rfl
      go_wp2_with (refine Mm.wp_store4 _ rfl _ _ rfl r _ _ (.int .i64 6) (.string ⟨#[]⟩) (.int .i64 0) lv HR.out rfl rfl rfl (by intro u hu; simp only [List.mem_cons, List.mem_nil_iff, or_false] at hu; rcases hu with rfl | rfl | rfl | rfl <;> first | rfl | exact HO'.out.one.1) ?_; intro wf hwf hsf hgf; have HWF := Pl.hid hwf; have HG := Pl.hid hgf; clear hwf hsf hgf)
      have hlo := HLO.out
      have hpr := HPR.out
      have hbr := HBr.out.2
      (try simp only [Exit.inBlock, Exit.then])
      refine bodyPost_ret (Mm.res_cell rfl _ wf r _ _ _ _ _ _ rfl HWF.out) rfl ?_
      refine ⟨_, _, _, _, rfl, ?_, HBr.out.1.grown HG.out (by omega) (fun k hk => by cases hk; omega)⟩
      refine ((HO'.out.rep 6 ⟨#[]⟩ 0).keepLo (fun g hg hgl => HG.out.block g hgl ?_)).lo (by omega)
      intro e
      cases e
      omega
set_option maxHeartbeats 8000000 in
theorem rbulksO_walk (v : Value) (ws : List (List UInt8)) (w : World) (hv : Mm.RowT w v ws) (hn : ws.length ≤ 1048576) (hs : ∀ s ∈ ws, s.length ≤ 1048576) :
    Calls Tryd.prog 35 #[v] w fun e w' => ∃ c0 c1 c2 c3, e = .returned (.agg #[c0, c1, c2, c3]) ∧ Mm.OwnT w' w.heap.size (Pl.reqT ws) [c0, c1, c2, c3] ∧ Below w.heap.size w w' := by
  obtain ⟨a, c, rfl, hc, hcell⟩ := hv
  obtain ⟨n, hnn⟩ : ∃ n, n = ws.length := ⟨_, rfl⟩
  rw [← hnn] at hc hcell hn ⊢
  have HNN := Pl.hid hnn
  have HCELL := Pl.hid hcell
  have HSS := Pl.hid hs
  clear hcell hnn hs
  go_enter Tryd.func35, Tryd.ntmps35
  go_wp2_with fail
  generalize hw3 : World.alloc _ _ = w3
  obtain ⟨p, hp⟩ : ∃ p, p = w.heap.size + 1 := ⟨_, rfl⟩
  obtain ⟨r, hr⟩ : ∃ r, r = w.heap.size := ⟨_, rfl⟩
  have HP3 : Hid (w3.heap[p]? = some (.cells #[.int .i64 6, .string ⟨#[]⟩, .int .i64 0, .slice none 0 0] 31 (0, 0))) := by
    show _ = _
    rw [← hw3, hp]
    have := heap_alloc_new (w.alloc (.cells #[.int .i64 0, .string ⟨#[]⟩, .int .i64 0, .slice none 0 0] 31)) (.cells #[.int .i64 6, .string ⟨#[]⟩, .int .i64 0, .slice none 0 0] 31)
    simpa using this
  have HR3 : Hid (w3.heap[r]? = some (.cells #[.int .i64 0, .string ⟨#[]⟩, .int .i64 0, .slice none 0 0] 31 (0, 0))) := by
    show _ = _
    rw [← hw3, hr, Below.heap_alloc _ _ _ (by simp)]
    exact heap_alloc_new w _
  have HB3 : Hid (Below w.heap.size w w3) := by rw [← hw3]; exact ((Below.refl _ _).alloc (Nat.le_refl _) _).alloc (by simp) _
  have HS3 : Hid (w3.heap.size = w.heap.size + 2) := by show _ = _; rw [← hw3]; simp
  have HPR : Hid (p = w.heap.size + 1 ∧ r = w.heap.size) := ⟨hp, hr⟩
  obtain ⟨lo, hlo⟩ : ∃ lo, lo = w3.heap.size := ⟨_, rfl⟩
  have HLO : Hid (lo = w.heap.size + 2 ∧ lo = w3.heap.size) := ⟨hlo.trans HS3.out, hlo⟩
  rw [← hp, ← hr]
  clear hw3 hp hr hlo
  go_loopw [9] (fun iv wr => ∃ (i : Nat) (lv : Value), iv = .int .i64 i ∧ i ≤ n ∧ Hid (wr.heap[p]? = some (.cells #[.int .i64 6, .string ⟨#[]⟩, .int .i64 0, lv] 31 (0, 0))) ∧
      Hid (wr.heap[r]? = some (.cells #[.int .i64 0, .string ⟨#[]⟩, .int .i64 0, .slice none 0 0] 31 (0, 0))) ∧ Hid (Mm.OwnL wr lo lv ((ws.take i).map Pl.bulkT)) ∧ Hid (Below w.heap.size w wr ∧ lo ≤ wr.heap.size)) (fun iv _ => n - (intOf iv).toNat)
  case atStart => exact ⟨0, .slice none 0 0, rfl, Nat.zero_le _, HP3, HR3, Mm.OwnL.nil w3 lo, HB3.out, Nat.le_of_eq HLO.out.2⟩
  case round =>
    obtain ⟨i, lv, rfl, hi, HP, HR, HO, HBr⟩ := hrel
    rcases Nat.lt_or_ge i n with hlt | hge
    · obtain ⟨g, o, rfl, hm⟩ := HCELL.out (by omega)
      obtain ⟨s, hs⟩ : ∃ s, ws[i]? = some s := ⟨_, List.getElem?_eq_getElem (by rw [← HNN.out]; exact hlt)⟩
      have hc0 := hm i s hs
      have hcs := (HBr.out.1.cell (p := ⟨g, o + i, none⟩) (World.block_lt_of_cell? _ _ hc0)).trans hc0
      have HS := Pl.hid hs
      have hpl : p < wr.heap.size := (Array.getElem?_eq_some_iff.1 HP.out).1
      have HPLT := Pl.hid hpl
      have HLN : Hid (((ws.take i).map Pl.bulkT).length < 1073741824) := by show _ < _; rw [List.length_map, List.length_take]; omega
      have p3 : wr.cell? ⟨p, 3, none⟩ = some lv := Mm.cellOf HP.out rfl
      have ST5 : Hid (∀ (w5 : World), Below wr.heap.size wr w5 → w5.cell? ⟨p, 3, none⟩ = some lv ∧ (w5.alloc (.cells #[.int .i64 4, .string (Pl.B s), .int .i64 0, .slice none 0 0] 31)).cell? ⟨p, 3, none⟩ = some lv ∧
          Hid (Mm.OwnT w5 wr.heap.size (Pl.bulkT s) [.int .i64 4, .string (Pl.B s), .int .i64 0, .slice none 0 0]) ∧ Hid (Below wr.heap.size wr w5) ∧ Hid (w5.heap[p]? = some (.cells #[.int .i64 6, .string ⟨#[]⟩, .int .i64 0, lv] 31 (0, 0))) ∧ Hid (w5.heap[r]? = some (.cells #[.int .i64 0, .string ⟨#[]⟩, .int .i64 0, .slice none 0 0] 31 (0, 0)))) := fun w5 hb => by
        have h5 := (hb.block p HPLT.out).trans HP.out
        have c5 : w5.cell? ⟨p, 3, none⟩ = some lv := Mm.cellOf h5 rfl
        exact ⟨c5, (World.cell?_alloc_old _ _ _ (Nat.ne_of_lt (Nat.lt_of_lt_of_le HPLT.out hb.size))).trans c5, (Mm.OwnL.nil w5 wr.heap.size).rep 4 (Pl.B s) 0, hb, h5, (hb.block r (Array.getElem?_eq_some_iff.1 HR.out).1).trans HR.out⟩
      have ST6 : Hid (∀ (w5 w6 : World), w5.heap[p]? = some (.cells #[.int .i64 6, .string ⟨#[]⟩, .int .i64 0, lv] 31 (0, 0)) → Below lo w5 w6 → w6.cell? ⟨p, 3, none⟩ = some lv ∧ w6.frozen? ⟨p, 3, none⟩ = false) := fun w5 w6 h5 hb => by
        have h6 := (hb.block p (by have := HLO.out; have := HPR.out; omega)).trans h5
        exact ⟨Mm.cellOf h6 rfl, Mm.frozenOf h6⟩
      clear hm hc0 hs
      go_wp2_with fail
      clear hcs
      go_region_law (first
        | (go_simp; go_at_call 32; refine (mk_rbulk (Pl.B s) _).mono ?_; rintro e w5 ⟨rfl, hb5⟩; obtain ⟨p5, p5a, HT5, HB5, HP5, HR5⟩ := ST5.out w5 (by first | exact hb5 | exact Mm.undrew hb5); clear hb5)
        | (refine Mm.step_appR _ (by rfl) _ _ (by rfl) wr w5 lo lv ((ws.take i).map Pl.bulkT) (by rfl) HO.out (Pl.bulkT s) [.int .i64 4, .string (Pl.B s), .int .i64 0, .slice none 0 0] HT5.out (by rfl) (by rfl) HB5.out HLN.out HBr.out.2 ?_; intro v6 w6 ho6 hb6 _; obtain ⟨a6, k6, rfl⟩ := ho6.val; obtain ⟨p6, pf6⟩ := ST6.out w5 w6 HP5.out hb6; have HO6 := Pl.hid ho6; have HB6 := Pl.hid hb6; clear ho6 hb6))
      all_goals
        have HV : Hid (((ws.take i).map Pl.bulkT ++ [Pl.bulkT s]).length = min i ws.length + 1) := by show _ = _; simp
        have HVT : Hid ((ws.take i).map Pl.bulkT ++ [Pl.bulkT s] = (ws.take (i + 1)).map Pl.bulkT) := by show _ = _; rw [List.take_add_one, HS.out]; simp
        have HO6' : Hid (Mm.OwnL w6 lo (.slice a6 (min i ws.length + 1) k6) ((ws.take (i + 1)).map Pl.bulkT)) := by
          have := HO6.out
          rw [HV.out, HVT.out] at this
          exact this
        have HP7 := Pl.hid (Mm.heapSet ((HB6.out.block p (by have := HLO.out; have := HPR.out; omega)).trans HP5.out) 3 (.slice a6 (min i ws.length + 1) k6))
        have HG7 := Pl.hid (Mm.grownSet w6 p 3 (.slice a6 (min i ws.length + 1) k6))
        generalize World.setCell w6 _ _ = w7 at HP7 HG7 ⊢
        clear p6 pf6 p5 p5a p3 HO6
        go_wp2_with fail
        have hlo := HLO.out
        have hpr := HPR.out
        have h5z := HB5.out.size
        have h6z := HB6.out.size
        have hbr := HBr.out.2
        refine ⟨⟨i + 1, _, by go_num, hlt, HP7, ?_, ?_, ?_⟩, by simp [intOf]; omega⟩
        · show _ = _
          have hrl := (Array.getElem?_eq_some_iff.1 HR.out).1
          rw [HG7.out.block r (by omega) (by intro e; cases e; omega), HB6.out.block r (by omega)]
          exact HR5.out
        · exact HO6'.out.keepLo fun g hg hgl => HG7.out.block g hgl (by intro e; cases e; omega)
        · refine ⟨(HBr.out.1.trans (((HB5.out.mono (by omega)).trans (HB6.out.mono (by omega))))).grown HG7.out (by have := HBr.out.1.size; omega) (fun k hk => by cases hk; omega), ?_⟩
          have := HG7.out.size
          omega
    · have hie : i = n := by omega
      subst hie
      have HO' : Hid (Mm.OwnL wr lo lv (ws.map Pl.bulkT)) := by have := HO.out; rw [HNN.out, List.take_length] at this; exact this
      have p0 := Mm.cellOf (i := 0) (v := .int .i64 6) HP.out rfl
      have p1 := Mm.cellOf (i := 1) (v := .string ⟨#[]⟩) HP.out rfl
      have p2 := Mm.cellOf (i := 2) (v := .int .i64 0) HP.out rfl
      have p3 := Mm.cellOf (i := 3) (v := lv) HP.out rfl
      go_wp2_with (refine Mm.wp_store4 _ rfl _ _ rfl r _ _ (.int .i64 6) (.string ⟨#[]⟩) (.int .i64 0) lv HR.out rfl rfl rfl (by intro u hu; simp only [List.mem_cons, List.mem_nil_iff, or_false] at hu; rcases hu with rfl | rfl | rfl | rfl <;> first | rfl | exact HO'.out.one.1) ?_; intro wf hwf hsf hgf; have HWF := Pl.hid hwf; have HG := Pl.hid hgf; clear hwf hsf hgf)
      have hlo := HLO.out
      have hpr := HPR.out
      have hbr := HBr.out.2
      (try simp only [Exit.inBlock, Exit.then])
      refine bodyPost_ret (Mm.res_cell rfl _ wf r _ _ _ _ _ _ rfl HWF.out) rfl ?_
      refine ⟨_, _, _, _, rfl, ?_, HBr.out.1.grown HG.out (by omega) (fun k hk => by cases hk; omega)⟩
      refine ((HO'.out.rep 6 ⟨#[]⟩ 0).keepLo (fun g hg hgl => HG.out.block g hgl ?_)).lo (by omega)
      intro e
      cases e
      omega

theorem requestO_walk (v : Value) (ws : List (List UInt8)) (W w : World) (hT : Mm.Tab W) (hW : Below W.heap.size W w) (hv : Mm.RowT w v ws) (hws : ws.length + (ws.map List.length).sum ≤ 1048576) (hs : ∀ s ∈ ws, s.length ≤ 1048576) :
    Calls Tryd.prog 11 #[v] w fun e w' => ∃ v', e = .returned v' ∧ Mm.OwnB w' w.heap.size v' (Pl.reqE ws) ∧ Below w.heap.size w w' := by
  have HT := Pl.hid hT
  have HW := Pl.hid hW
  have HV := Pl.hid hv
  have HS := Pl.hid hs
  have HWS := Pl.hid hws
  have HRE := Pl.hid (Pl.reqE_le ws hws)
  clear hT hW hv hs hws
  go_enter Tryd.func11, Tryd.ntmps11
  go_wp2_with fail
  refine (bulksO_walk v ws w HV.out (by have := HWS.out; omega) HS.out).mono ?_
  rintro e w1 ⟨c0, c1, c2, c3, rfl, hx, hb1⟩
  have HB1 := Pl.hid hb1
  have HX := Pl.hid hx.x
  clear hx hb1
  go_wp2_with fail
  refine (lay_arr ws c0 c1 c2 c3 w1.heap.size _ [] w1 w1 (HT.out.on (HW.out.trans (HB1.out.mono HW.out.size))) HX.out (Below.refl _ _) (Nat.le_refl _) (Nat.le_refl _) (Mm.ownB_nil _ _) (by have := HRE.out; simp only [List.length_nil]; omega) (by have := HWS.out; omega) (fun s h => by have := HS.out s h; omega)).mono ?_
  rintro e w2 ⟨v2, rfl, ho2, hb2, _⟩
  have HO2 := Pl.hid ho2
  have HB2 := Pl.hid hb2
  clear ho2 hb2
  go_wp2_with fail
  go_ret
  refine ⟨_, rfl, ?_, HB1.out.trans (HB2.out.mono HB1.out.size)⟩
  have := HO2.out
  rw [List.nil_append] at this
  exact this.baseO HB1.out.size

theorem rrequest_walk (v : Value) (ws : List (List UInt8)) (w : World) (hv : Mm.RowT w v ws) (hws : ws.length + (ws.map List.length).sum ≤ 1048576) (hs : ∀ s ∈ ws, s.length ≤ 1048576) :
    Calls Tryd.prog 36 #[v] w fun e w' => ∃ v', e = .returned v' ∧ Mm.OwnB w' w.heap.size v' (Pl.reqE ws) ∧ Below w.heap.size w w' := by
  have HV := Pl.hid hv
  have HS := Pl.hid hs
  have HWS := Pl.hid hws
  have HRE := Pl.hid (Pl.reqE_le ws hws)
  have HOK := Pl.hid (Pl.reqT_ok ws hws)
  clear hv hs hws
  go_enter Tryd.func36, Tryd.ntmps36
  go_wp2_with fail
  refine (rbulksO_walk v ws w HV.out (by have := HWS.out; omega) HS.out).mono ?_
  rintro e w1 ⟨c0, c1, c2, c3, rfl, hx, hb1⟩
  have HB1 := Pl.hid hb1
  have HX := Pl.hid hx.x
  clear hx hb1
  go_wp2_with fail
  refine (written_walk w1 _ (Pl.reqT ws) HOK.out.1 HOK.out.2.1 HOK.out.2.2.2.2.1 c0 c1 c2 c3 HX.out w1.heap.size _ [] w1 (Below.refl _ _) (Nat.le_refl _) (Nat.le_refl _) (Mm.ownB_nil _ _) (by rw [HOK.out.2.2.2.1]; have := HRE.out; simp only [List.length_nil]; omega)).mono ?_
  rintro e w2 ⟨v2, r, rfl, ho2, hr, hrl, hb2, _⟩
  have HO2 := Pl.hid ho2
  have HB2 := Pl.hid hb2
  have HRR : Hid (r = Pl.reqE ws) := by
    have h1 := HRE.out
    rw [HOK.out.2.2.2.1] at hr hrl
    rcases hr with h | h
    · exact h
    · simp only [List.length_nil] at hrl
      omega
  clear ho2 hb2 hr hrl
  go_wp2_with fail
  go_ret
  refine ⟨_, rfl, ?_, HB1.out.trans (HB2.out.mono HB1.out.size)⟩
  have := HO2.out
  rw [HRR.out] at this
  exact this.baseO HB1.out.size
end Go.Proofs.YtakldjdohgmeiaaDoor

namespace Go.Proofs.YtakldjdohgmeiaaDoor
open Go.RowKit
set_option maxRecDepth 20000

namespace Mm
open Pl
/-- nothing but the blocks of S, and what is new, is touched -/
structure Tch (w w' : World) (S : Nat → Prop) : Prop where
  os : w'.os = w.os
  tape : w'.tape = w.tape
  output : w'.output = w.output
  size : w.heap.size ≤ w'.heap.size
  block : ∀ g, g < w.heap.size → ¬ S g → w'.heap[g]? = w.heap[g]?
theorem Tch.refl (w : World) (S : Nat → Prop) : Tch w w S := ⟨rfl, rfl, rfl, Nat.le_refl _, fun _ _ _ => rfl⟩
theorem Tch.of_below {w w' : World} (h : Below w.heap.size w w') (S : Nat → Prop) : Tch w w' S := ⟨h.os, h.tape, h.output, h.size, fun g hg _ => h.block g hg⟩
theorem Tch.trans {a b c : World} {S S' : Nat → Prop} (h : Tch a b S) (k : Tch b c S') (hS : ∀ g, S' g → g < a.heap.size → S g) : Tch a c S :=
  ⟨k.os.trans h.os, k.tape.trans h.tape, k.output.trans h.output, Nat.le_trans h.size k.size, fun g hg hn => (k.block g (Nat.lt_of_lt_of_le hg h.size) (fun hs => hn (hS g hs hg))).trans (h.block g hg hn)⟩
theorem Tch.of_grown {w w' : World} {r : Option Nat} {S : Nat → Prop} (h : w.grownBy w' r) (hS : ∀ g, r = some g → g < w.heap.size → S g) : Tch w w' S :=
  ⟨h.os, h.tape, h.output, h.size, fun g hg hn => h.block g hg (fun e => hn (hS g e.symm hg))⟩
theorem Tch.below {w w' : World} {S : Nat → Prop} (h : Tch w w' S) {B : Nat} (hB : B ≤ w.heap.size) (hS : ∀ g, S g → B ≤ g) : Below B w w' :=
  ⟨h.os, h.tape, h.output, h.size, fun g hg => h.block g (Nat.lt_of_lt_of_le hg hB) (fun hs => absurd (hS g hs) (by omega))⟩
/-- a store of a whole reply into a block -/
theorem wp_store4At {ops : Array Oper} {rest : List Oper} {op : Oper} {a : Act} {Q : Exit → Act → World → Prop} (w : World) (hgd : op.guard = none) (x y : Operand) (ho : op.op = .store 31 x y)
    (p i : Nat) (T : TypeId) (cs : Array Value) (c0 c1 c2 c3 : Value) (h : w.heap[p]? = some (.cells cs T (0, 0))) (hcs : i + 4 ≤ cs.size) (hx : a.eval x = .pointer (some ⟨p, i, none⟩)) (hy : a.eval y = .agg #[c0, c1, c2, c3]) (h1 : ∀ u ∈ [c0, c1, c2, c3], u.oneCell' = true)
    (hK : ∀ w' cs', w'.heap[p]? = some (.cells cs' T (0, 0)) → cs'.size = cs.size → (∀ j, i + 4 ≤ j → cs'[j]? = cs[j]?) → w'.heap.size = w.heap.size → w.grownBy w' (some p) → wpList Tryd.prog ops Q rest (a.put op.dst undef) w') : wpList Tryd.prog ops Q (op :: rest) a w := by
  refine wpList_plain hgd fun K hK' => ?_
  obtain ⟨i0, hi0, hz0, hz1, hz2⟩ := info_parts Tryd.info_rep
  have hst := run_storeCells_at Tryd.prog p i T [c0, c1, c2, c3] 0 _ w h (by simp; omega) h1
  have hrun : (Instr.storeAt 31 (.pointer (some ⟨p, i, none⟩)) (.agg #[c0, c1, c2, c3])).run Tryd.prog w =
      .ok () (w.setRow p (cs.toList.take i ++ [c0, c1, c2, c3] ++ cs.toList.drop (i + 4)).toArray) := by
    simp only [Nat.add_zero] at hst
    simp [Instr.storeAt, Instr.sureAddr, storeVar, sizeOf, typeInfo, hi0, hz1, Value.cells]
    simpa using hst
  unfold Oper.wp execOp
  simp only [ho, hx, hy, Sem.run_bind, Sem.run_pure, Result.andThen_ok, hrun]
  refine hK' _ _ (hK _ _ (by rw [setRow_heap w p _ _ _ _ h]) ?_ ?_ (by simp [World.setRow]) ⟨rfl, rfl, rfl, by simp [World.setRow], fun k _ hk => setRow_other w p k _ (fun e => hk (by rw [e]))⟩)
  · simp
    omega
  · intro j hj
    have hl : (cs.toList.take i).length = i := by rw [List.length_take, Array.length_toList]; omega
    rw [List.getElem?_toArray, List.getElem?_append_right (by rw [List.length_append, hl]; simpa using hj), List.getElem?_drop, List.length_append, hl]
    rw [show i + 4 + (j - (i + [c0, c1, c2, c3].length)) = j by simp; omega]
    simp

/-- 'append(l, x)', x a reply -/
theorem wp_appRSh {ops : Array Oper} {rest : List Oper} {o : Oper} {a : Act} {Q : Exit → Act → World → Prop} (w : World) (hgd : o.guard = none) (x y : Operand)
    (ho : o.op = .call { callee := .builtin .append, args := #[x, y], argTypes := #[29, 29] })
    (lo : Nat) (v : Value) (n : Nat) (c0 c1 c2 c3 : Value) (h1 : ∀ u ∈ [c0, c1, c2, c3], u.oneCell' = true) (hx : a.eval x = v) (hy : a.eval y = .slice (some ⟨w.heap.size, 0, none⟩) 1 1) (h : ShR w lo 31 4 v n) (hl : n < 1099511627776) (hlo : lo ≤ w.heap.size)
    (hK : ∀ v' w', ShR w' lo 31 4 v' (n + 1) → w.grownBy w' v.ownBlock → (v'.ownBlock = v.ownBlock ∨ ∃ k, v'.ownBlock = some k ∧ w.heap.size ≤ k) → Shp 31 w w' → wpList Tryd.prog ops Q rest (a.put o.dst v') w') :
    wpList Tryd.prog ops Q (o :: rest) a (w.alloc (.cells #[c0, c1, c2, c3] 31)) := by
  obtain ⟨i0, hi, hz0, hz1, hz2⟩ := info_parts Tryd.info_rep
  have hb : Below w.heap.size w (w.alloc (.cells #[c0, c1, c2, c3] 31)) := (Below.refl _ _).alloc (Nat.le_refl _) _
  obtain ⟨v', w', hr, h1', h2, h3, h4⟩ := run_append_sh (w.alloc (.cells #[c0, c1, c2, c3] 31)) lo 29 o.type 31 i0 (.agg #[.int .i64 0, .string ⟨#[]⟩, .int .i64 0, .slice none 0 0]) 4 56 Tryd.underlying29 hi hz0 hz1 hz2 rfl (by decide) v n (h.shp (Shp.below hb)) ⟨w.heap.size, 0, none⟩ 1 1 [c0, c1, c2, c3] rfl
    (by
      intro j u hj
      have e : (⟨w.heap.size, 0, none⟩ : Addr).add j = ⟨w.heap.size, j, none⟩ := by unfold Addr.add; split <;> simp_all
      rw [e, World.cell?_alloc_mark]
      simpa using hj)
    h1 (by unfold maxLen; omega) (by omega) (by simp; omega)
  refine wpList_plain hgd fun K hK' => ?_
  unfold Oper.wp execOp
  simp only [ho, resolve, invoke, builtin, Sem.run_bind, Sem.run_pure, Result.andThen_ok, List.map_toArray, List.map_cons, List.map_nil, hx, hy, hr]
  refine hK' _ _ (hK v' w' h1' ?_ ?_ ((Shp.below hb).trans h4))
  · refine ⟨h2.os, h2.tape, h2.output, Nat.le_trans hb.size h2.size, fun k hk hne => (h2.block k (Nat.lt_of_lt_of_le hk hb.size) hne).trans (hb.block k hk)⟩
  · rcases h3 with h3 | h3
    · exact .inl h3
    · exact .inr ⟨_, h3, hb.size⟩

/-- 'l[0].Kind = c' -/
theorem wp_storeKSh {ops : Array Oper} {rest : List Oper} {op : Oper} {a : Act} {Q : Exit → Act → World → Prop} (w : World) (hgd : op.guard = none) (x y : Operand) (ho : op.op = .store 3 x y)
    (lo g n cap : Nat) (c : Int) (h : ShR w lo 31 4 (.slice (some ⟨g, 0, none⟩) n cap) n) (hx : a.eval x = .pointer (some ⟨g, 0, none⟩)) (hy : a.eval y = .int .i64 c) (hi : 0 < n)
    (hK : ∀ w', w'.heap.size = w.heap.size → w.grownBy w' (some g) → Shp 31 w w' → wpList Tryd.prog ops Q rest (a.put op.dst undef) w') : wpList Tryd.prog ops Q (op :: rest) a w := by
  rcases h with ⟨h0, _⟩ | ⟨g', cap', cur, hv, hlo, hg, hn, hc, hs⟩
  · cases h0
  · injection hv with a1 a2 a3
    injection a1 with a1
    injection a1 with a1
    subst a1
    subst a3
    refine wp_storeF w hgd 3 x y ho (by kernel_rfl) g 0 31 cur (.int .i64 c) hg hx hy (by omega) rfl rfl ?_
    intro w' h1 h2 h3
    exact hK w' h2 h3 (Shp.store hg h1 (by simp) h3)
/-- the row of a list, from a place on -/
def RowAt (w : World) (v : Value) (l : List RT) (i : Nat) (S : Nat → Prop) : Prop :=
  (l.length = 0 ∧ ShR w 0 31 4 v l.length) ∨ ∃ (g cap : Nat) (cur : Array Value) (xs : List Value) (bsr : List Nat), v = .slice (some ⟨g, 0, none⟩) l.length cap ∧ w.heap[g]? = some (.cells cur 31 (0, 0)) ∧ l.length ≤ cap ∧ cap ≤ maxLen ∧ cur.size = cap * 4 ∧
    (∀ j, i * 4 + j < l.length * 4 → cur[i * 4 + j]? = xs[j]?) ∧ RowB w (l.drop i) xs bsr ∧ (g :: bsr).Nodup ∧ S g ∧ ∀ q ∈ bsr, S q
theorem RowAt.sh {w : World} {v : Value} {l : List RT} {i : Nat} {S : Nat → Prop} (h : RowAt w v l i S) : ShR w 0 31 4 v l.length := by
  rcases h with ⟨_, h0⟩ | ⟨g, cap, cur, xs, bsr, rfl, h1, h2, h3, h4, _⟩
  · exact h0
  · exact .inr ⟨g, cap, cur, rfl, Nat.zero_le _, h1, h2, h3, h4⟩
theorem RowAt.start {w : World} {v : Value} {l : List RT} {xs : List Value} {bs : List Nat} (h : w.ownsRow 0 31 4 v l.length xs) (hr : RowB w l xs bs) (hn : (v.ownBlock.toList ++ bs).Nodup) : RowAt w v l 0 (fun g => g ∈ v.ownBlock.toList ++ bs) := by
  rcases h.2 with ⟨rfl, h0⟩ | ⟨g, cap, cur, rfl, h1, h2, h3, h4, h5, h6⟩
  · exact .inl ⟨h0, .of_own h⟩
  · refine .inr ⟨g, cap, cur, xs, bs, rfl, h2, h3, h4, h5, fun j hj => ?_, by rw [List.drop_zero]; exact hr, by simpa [Value.ownBlock] using hn, by simp [Value.ownBlock], fun q hq => by simp [hq]⟩
    rw [Nat.zero_mul, Nat.zero_add] at hj ⊢
    rw [← h6, List.getElem?_take_of_lt hj]
    simp
theorem RowAt.elem {w : World} {v : Value} {l : List RT} {i : Nat} {S : Nat → Prop} (h : RowAt w v l i S) (hi : i < l.length) :
    ∃ (g cap : Nat) (c0 c1 c2 c3 : Value) (bse : List Nat) (cur : Array Value), v = .slice (some ⟨g, 0, none⟩) l.length cap ∧ w.cell? ⟨g, i * 4, none⟩ = some c0 ∧ w.cell? ⟨g, i * 4 + 1, none⟩ = some c1 ∧ w.cell? ⟨g, i * 4 + 2, none⟩ = some c2 ∧ w.cell? ⟨g, i * 4 + 3, none⟩ = some c3 ∧
      RepB w (l[i]'hi) [c0, c1, c2, c3] bse ∧ bse.Nodup ∧ (∀ q ∈ bse, S q) ∧ S g ∧ i * 4 + 4 ≤ cur.size ∧
      ∀ w4 : World, (∀ q, q < w.heap.size → q ∉ bse → w4.heap[q]? = w.heap[q]?) → w4.heap[g]? = some (.cells cur 31 (0, 0)) ∧
        ∀ (w5 : World) (cur' : Array Value), w5.heap[g]? = some (.cells cur' 31 (0, 0)) → cur'.size = cur.size → (∀ j, i * 4 + 4 ≤ j → cur'[j]? = cur[j]?) → (∀ q, q ≠ g → q < w4.heap.size → w5.heap[q]? = w4.heap[q]?) → w.heap.size ≤ w4.heap.size → RowAt w5 v l (i + 1) S := by
  rcases h with ⟨h0, _⟩ | ⟨g, cap, cur, xs, bsr, rfl, h1, h2, h3, h4, h5, h6, h7, h8, h9⟩
  · omega
  rw [List.drop_eq_getElem_cons hi] at h6
  cases h6 with
  | cons t ts cs xs' bse bsr' hh hr =>
    obtain ⟨c0, c1, c2, c3, rfl, _⟩ := hh.four
    have key : ∀ j u, j < 4 → ([c0, c1, c2, c3] ++ xs')[j]? = some u → w.cell? ⟨g, i * 4 + j, none⟩ = some u := fun j u hj hu => by
      rw [← h5 j (by omega)] at hu
      exact cell_of h1 hu
    have hn := List.nodup_cons.1 h7
    have hnn := List.nodup_append.1 hn.2
    have hgl := (Array.getElem?_eq_some_iff.1 h1).1
    have hge : g ∉ bse := fun hm => hn.1 (by simp [hm])
    refine ⟨g, cap, c0, c1, c2, c3, bse, cur, rfl, key 0 _ (by omega) rfl, key 1 _ (by omega) rfl, key 2 _ (by omega) rfl, key 3 _ (by omega) rfl, hh, hnn.1, fun q hq => h9 q (by simp [hq]), h8, by rw [h4]; omega, fun w4 hw4 => ⟨(hw4 g hgl hge).trans h1, fun w5 cur' k1 k2 k3 k4 k5 => ?_⟩⟩
    refine .inr ⟨g, cap, cur', xs', bsr', rfl, k1, h2, h3, k2.trans h4, fun j hj => ?_, hr.keep fun q hq => ?_, List.nodup_cons.2 ⟨fun hm => hn.1 (by simp [hm]), hnn.2.1⟩, h8, fun q hq => h9 q (by simp [hq])⟩
    · rw [show (i + 1) * 4 + j = i * 4 + (4 + j) by omega] at hj ⊢
      rw [k3 _ (by omega), h5 _ hj]
      simp [show 4 + j = j + 4 by omega]
    · have hql := hr.lt q hq
      have hqg : q ≠ g := fun e => hn.1 (by rw [← e]; simp [hq])
      have hqe : q ∉ bse := fun hm => hnn.2.2 q hm q hq rfl
      rw [k4 q hqg (by omega), hw4 q hql hqe]
end Mm

set_option maxHeartbeats 4000000 in
theorem spoilt_walk : ∀ (t : RT), t.sz ≤ 1073741824 → ∀ (c0 c1 c2 c3 : Value) (bs : List Nat) (w : World), Mm.RepB w t [c0, c1, c2, c3] bs → bs.Nodup →
    Calls Tryd.prog 23 #[.agg #[c0, c1, c2, c3]] w fun e w' => (∃ u, e = .returned u) ∧ Mm.Tch w w' (fun g => g ∈ bs) := by
  intro t
  induction t using RT.ind with
  | h k s n l ih =>
    intro hsz c0 c1 c2 c3 bs w hx hnd
    rw [RT.sz_mk] at hsz
    have HL : Hid (l.length < 1073741824) := by have := RT.szL_len l; show _ < _; omega
    have HSZ := Pl.hid hsz
    have HLT := Pl.hid hx.lt
    obtain ⟨v, bs', hcs, xs, hown, hr, hbs⟩ : ∃ v bs', [c0, c1, c2, c3] = [.int .i64 k, .string s, .int .i64 n, v] ∧ ∃ xs, w.ownsRow 0 31 4 v l.length xs ∧ Mm.RowB w l xs bs' ∧ bs = v.ownBlock.toList ++ bs' := by
      cases hx with
      | mk k s n l v xs bs' hown hr => exact ⟨_, bs', rfl, xs, hown, hr, rfl⟩
    simp only [List.cons.injEq, and_true] at hcs
    obtain ⟨rfl, rfl, rfl, hc3⟩ := hcs
    obtain rfl : v = c3 := hc3.symm
    obtain ⟨S, hS⟩ : ∃ S : Nat → Prop, S = fun g => g ∈ bs := ⟨_, rfl⟩
    have HSD : Hid (∀ g, S g → g ∈ bs ∧ g < w.heap.size) := fun g hg => by rw [hS] at hg; exact ⟨hg, HLT.out g hg⟩
    have HST : Hid (Mm.RowAt w v l 0 S) := by
      have := Mm.RowAt.start hown hr (by rw [← hbs]; exact hnd)
      rw [← hbs] at this
      show Mm.RowAt w v l 0 S
      rw [hS]
      exact this
    have HVS : Hid (∀ g, v.ownBlock = some g → S g) := fun g hg => by rw [hS, hbs]; simp [hg]
    have hvf : ∃ a cap, v = .slice a l.length cap := by
      rcases hown.2 with ⟨rfl, h0⟩ | ⟨g, cap, cur, rfl, _⟩
      · exact ⟨none, 0, by rw [h0]⟩
      · exact ⟨_, _, rfl⟩
    obtain ⟨va, vc, rfl⟩ := hvf
    rw [← hS]
    have IH := Pl.hid ih
    clear ih hx hnd hsz hown hr hbs hS HLT
    have hln := HL.out
    go_enter Tryd.func23, Tryd.ntmps23
    go_wp2_with fail
    generalize hw1 : World.alloc _ _ = w1
    obtain ⟨p, hp⟩ : ∃ p, p = w.heap.size := ⟨_, rfl⟩
    rw [← hp]
    have HP1 : Hid (w1.heap[p]? = some (.cells #[.int .i64 k, .string s, .int .i64 n, .slice va l.length vc] 31 (0, 0))) := by show _ = _; rw [← hw1, hp]; exact heap_alloc_new w _
    have HB1 : Hid (Below w.heap.size w w1) := by rw [← hw1]; exact (Below.refl _ _).alloc (Nat.le_refl _) _
    have HPE := Pl.hid hp
    have HST1 : Hid (Mm.RowAt w1 (.slice va l.length vc) l 0 S) := by
      rcases HST.out with ⟨h0, h1⟩ | ⟨g, cap, cur, xs, bsr, e, h1, h2, h3, h4, h5, h6, h7, h8, h9⟩
      · exact .inl ⟨h0, h1.shp (Mm.Shp.below HB1.out)⟩
      · exact .inr ⟨g, cap, cur, xs, bsr, e, (HB1.out.block g (Array.getElem?_eq_some_iff.1 h1).1).trans h1, h2, h3, h4, h5, h6.keep fun q hq => HB1.out.block q (h6.lt q hq), h7, h8, h9⟩
    clear hw1 hp
    have p3 := Mm.cell_of HP1.out (i := 3) rfl
    go_wp2_with fail
    clear p3
    go_loopw [7] (fun iv wr => ∃ i : Nat, iv = .int .i64 i ∧ i ≤ l.length ∧ Hid (wr.heap[p]? = some (.cells #[.int .i64 k, .string s, .int .i64 n, .slice va l.length vc] 31 (0, 0))) ∧ Hid (Mm.Tch w wr S) ∧ Hid (Mm.RowAt wr (.slice va l.length vc) l i S)) (fun iv _ => l.length - (intOf iv).toNat)
    case atStart => exact ⟨0, rfl, Nat.zero_le _, HP1.out, Mm.Tch.of_below HB1.out S, HST1.out⟩
    case round =>
      obtain ⟨i, rfl, hi, HP, HT, HR⟩ := hrel
      have p3 := Mm.cell_of HP.out (i := 3) rfl
      have HPL : Hid (p < wr.heap.size) := (Array.getElem?_eq_some_iff.1 HP.out).1
      rcases Nat.lt_or_ge i l.length with hlt | hge
      · obtain ⟨g, cap, d0, d1, d2, d3, bse, cur, hv, g0, g1, g2, g3, hre, hnd, hse, hsg, hcz, hnext⟩ := HR.out.elem hlt
        injection hv with e1 e2 e3
        subst e1
        subst e3
        have HRE := Pl.hid hre
        have HND := Pl.hid hnd
        have HSE := Pl.hid hse
        have HSG := Pl.hid hsg
        have HCZ := Pl.hid hcz
        have HNX := Pl.hid hnext
        clear e2 hre hnd hse hsg hcz hnext
        go_wp2_with fail
        refine (IH.out _ (List.getElem_mem hlt) (by have := RT.szL_mem (List.getElem_mem hlt); have := HSZ.out; omega) d0 d1 d2 d3 bse wr HRE.out HND.out).mono ?_
        rintro e w4 ⟨⟨u, rfl⟩, ht4⟩
        have HT4 := Pl.hid ht4
        have HN4 := HNX.out w4 ht4.block
        have HG4 := Pl.hid HN4.1
        have HNX4 := Pl.hid HN4.2
        have HP4 : Hid (w4.heap[p]? = some (.cells #[.int .i64 k, .string s, .int .i64 n, .slice (some ⟨g, 0, none⟩) l.length vc] 31 (0, 0))) :=
          (ht4.block p HPL.out (fun hm => by have := (HSD.out p (HSE.out p hm)).2; rw [HPE.out] at this; omega)).trans HP.out
        have q3 := Mm.cell_of HP4.out (i := 3) rfl
        have HPG : Hid (p ≠ g) := fun e => by have := (HSD.out g HSG.out).2; rw [← e, HPE.out] at this; omega
        clear ht4 HN4 p3 g0 g1 g2 g3 HRE HND
        go_wp2_with (refine Mm.wp_store4At w4 rfl _ _ rfl g (i * 4) 31 cur (.int .i64 99) (.string ⟨#[115, 112, 111, 105, 108, 116]⟩) (.int .i64 0) (.slice none 0 0) HG4.out HCZ.out (by rfl) (by rfl) (by intro u hu; simp only [List.mem_cons, List.mem_nil_iff, or_false] at hu; rcases hu with rfl | rfl | rfl | rfl <;> rfl) ?_; intro w5 cur5 hw5 hz5 hc5 hs5 hg5; have HG5 := Pl.hid hg5; have HR5 := Pl.hid (HNX4.out w5 cur5 hw5 hz5 hc5 (fun q hq hql => hg5.block q hql (fun e => hq (by injection e))) HT4.out.size); clear hw5 hz5 hc5 hs5 hg5)
        refine ⟨⟨i + 1, by go_num, hlt, ?_, ?_, HR5.out⟩, by simp [intOf]; omega⟩
        · show _ = _
          rw [HG5.out.block p (Array.getElem?_eq_some_iff.1 HP4.out).1 (fun e => HPG.out (by injection e))]
          exact HP4.out
        · exact (HT.out.trans HT4.out (fun q hq _ => HSE.out q hq)).trans (Mm.Tch.of_grown (S := S) HG5.out (fun q hq _ => by injection hq with hq; rw [← hq]; exact HSG.out)) (fun q hq _ => hq)
      · have hd9 : decide (i < l.length) = false := decide_eq_false (by omega)
        go_wp2_with fail
        clear hd9
        have HS := Pl.hid HR.out.sh
        clear p3
        go_loopw [3, 24] (fun vv jv wr => ∃ j : Nat, jv = .int .i64 j ∧ j ≤ 20 ∧ Hid (Mm.Tch w wr S) ∧ Hid (Mm.ShR wr 0 31 4 vv (l.length + j)) ∧ Hid (∀ q, vv.ownBlock = some q → q < w.heap.size → S q)) (fun _ jv _ => 20 - (intOf jv).toNat)
        case atStart => exact ⟨0, rfl, Nat.zero_le _, HT.out, HS.out, fun q hq _ => HVS.out q hq⟩
        case round =>
          obtain ⟨j, rfl, hj, HT3, HV3, HO3⟩ := hrel
          have HJ3 : Hid (l.length + j < 1099511627776) := by show _ < _; omega
          rcases Nat.lt_or_ge j 20 with hlt | hge2
          · go_wp2_with (at_builtin; refine Mm.wp_appRSh wr rfl _ _ (by rfl) 0 u3 (l.length + j) (.int .i64 98) (.string ⟨#[]⟩) (.int .i64 0) (.slice none 0 0) (by intro u hu; simp only [List.mem_cons, List.mem_nil_iff, or_false] at hu; rcases hu with rfl | rfl | rfl | rfl <;> rfl) (by rfl) (by rfl) HV3.out HJ3.out (Nat.zero_le _) ?_; intro v4 w4 hs4 hg4 hb4 _; have HS4 := Pl.hid hs4; have HT4 := Pl.hid (HT3.out.trans (Mm.Tch.of_grown (S := fun q => u3.ownBlock = some q) hg4 (fun q hq _ => hq)) (fun q hq hql => HO3.out q hq hql)); have HO4 : Hid (∀ q, v4.ownBlock = some q → q < w.heap.size → S q) := (fun q hq hql => by
              rcases hb4 with hb4 | ⟨k', hb4, hk'⟩
              · exact HO3.out q (hb4 ▸ hq) hql
              · rw [hb4] at hq; injection hq with hq; have := HT3.out.size; omega); clear hs4 hg4 hb4)
            go_roundw
            case rel => exact ⟨j + 1, by go_num, hlt, HT4.out, HS4.out, HO4.out⟩
            case measure => simp [intOf]; omega
          · obtain rfl : j = 20 := by omega
            obtain ⟨g8, c8, hv8, ho8⟩ := HV3.out.slice (by omega)
            subst hv8
            have HO8 := Pl.hid (HO3.out g8 ho8)
            clear ho8
            go_wp2_with (refine Mm.wp_storeKSh wr rfl _ _ rfl 0 g8 (l.length + 20) c8 97 HV3.out (by rfl) (by rfl) (by omega) ?_; intro w9 hs9 hg9 hp9; have HT9 := Pl.hid (HT3.out.trans (Mm.Tch.of_grown (S := fun q => q = g8) hg9 (fun q hq _ => by injection hq with hq; exact hq.symm)) (fun q hq hql => by subst hq; exact HO8.out hql)); clear hs9 hg9 hp9)
            go_end0
            exact ⟨⟨_, rfl⟩, HT9.out⟩
end Go.Proofs.YtakldjdohgmeiaaDoor

namespace Go.Proofs.YtakldjdohgmeiaaDoor
open Go.RowKit
set_option maxRecDepth 20000

set_option maxHeartbeats 4000000 in
theorem same_tree (W : World) : ∀ (t : RT), t.sz ≤ 1073741824 → ∀ (c0 c1 c2 c3 d0 d1 d2 d3 : Value), Mm.RepX W t [c0, c1, c2, c3] → Mm.RepX W t [d0, d1, d2, d3] → ∀ w : World, Below W.heap.size W w →
    Calls Tryd.prog 21 #[.agg #[c0, c1, c2, c3], .agg #[d0, d1, d2, d3]] w fun e w' => e = .returned (.bool true) ∧ Below w.heap.size w w' := by
  intro t
  induction t using RT.ind with
  | h k s n l ih =>
    intro hsz c0 c1 c2 c3 d0 d1 d2 d3 hx hy w hb
    obtain ⟨a, cap, hcs, hel⟩ := hx.open
    simp only [List.cons.injEq, and_true] at hcs
    obtain ⟨rfl, rfl, rfl, rfl⟩ := hcs
    obtain ⟨a', cap', hcs, hel'⟩ := hy.open
    simp only [List.cons.injEq, and_true] at hcs
    obtain ⟨rfl, rfl, rfl, rfl⟩ := hcs
    rw [RT.sz_mk] at hsz
    have hlen : l.length < 1073741824 := by have := RT.szL_len l; omega
    have HSZ := Pl.hid hsz
    have IH := Pl.hid ih
    have HB := Pl.hid hb
    have HEL := Pl.hid hel
    have HEL' := Pl.hid hel'
    clear hb ih hel hel' hx hy hsz
    go_enter Tryd.func21, Tryd.ntmps21
    go_wp2_with fail
    generalize hw2 : World.alloc _ _ = w2
    have HP2 : Hid (w2.heap[w.heap.size]? = some (.cells #[.int .i64 k, .string s, .int .i64 n, .slice a l.length cap] 31 (0, 0))) := by
      show _ = _
      rw [← hw2, Below.heap_alloc _ _ _ (by simp)]
      exact heap_alloc_new w _
    have HR2 : Hid (w2.heap[w.heap.size + 1]? = some (.cells #[.int .i64 k, .string s, .int .i64 n, .slice a' l.length cap'] 31 (0, 0))) := by
      show _ = _
      rw [← hw2]
      have := heap_alloc_new (w.alloc (.cells #[.int .i64 k, .string s, .int .i64 n, .slice a l.length cap] 31)) (.cells #[.int .i64 k, .string s, .int .i64 n, .slice a' l.length cap'] 31)
      simpa using this
    have HB2 : Hid (Below w.heap.size w w2) := by rw [← hw2]; exact ((Below.refl _ _).alloc (Nat.le_refl _) _).alloc (by simp) _
    have HS2 : Hid (w2.heap.size = w.heap.size + 2) := by show _ = _; rw [← hw2]; simp
    clear hw2
    have HNX : Hid (w2.cell? ⟨w.heap.size, 0, none⟩ = some (.int .i64 k)) := Mm.cell_of HP2.out rfl
    go_loopw [37] (fun iv wr => ∃ (i : Nat), iv = .int .i64 i ∧ i ≤ l.length ∧ Hid (Below w2.heap.size w2 wr)) (fun iv _ => l.length - (intOf iv).toNat)
    case atStart => exact ⟨0, rfl, Nat.zero_le _, Below.refl _ _⟩
    case round =>
      obtain ⟨i, rfl, hi, HBr⟩ := hrel
      rcases Nat.lt_or_ge i l.length with hlt | hge
      · rcases HEL.out with h0 | ⟨b, rfl, hbl, hel⟩
        · omega
        rcases HEL'.out with h0 | ⟨b', rfl, hbl', hel'⟩
        · omega
        obtain ⟨f0, f1, f2, f3, h0, h1, h2, h3, hrep⟩ := hel i hlt
        obtain ⟨g0, g1, g2, g3, h0', h1', h2', h3', hrep'⟩ := hel' i hlt
        have HBW : Hid (Below W.heap.size W wr) := HB.out.trans ((HB2.out.trans (HBr.out.mono HB2.out.size)).mono HB.out.size)
        have r0 : wr.cell? ⟨b, i * 4, none⟩ = some f0 := (HBW.out.cell (p := ⟨b, i * 4, none⟩) hbl).trans h0
        have r1 : wr.cell? ⟨b, i * 4 + 1, none⟩ = some f1 := (HBW.out.cell (p := ⟨b, i * 4 + 1, none⟩) hbl).trans h1
        have r2 : wr.cell? ⟨b, i * 4 + 2, none⟩ = some f2 := (HBW.out.cell (p := ⟨b, i * 4 + 2, none⟩) hbl).trans h2
        have r3 : wr.cell? ⟨b, i * 4 + 3, none⟩ = some f3 := (HBW.out.cell (p := ⟨b, i * 4 + 3, none⟩) hbl).trans h3
        have s0 : wr.cell? ⟨b', i * 4, none⟩ = some g0 := (HBW.out.cell (p := ⟨b', i * 4, none⟩) hbl').trans h0'
        have s1 : wr.cell? ⟨b', i * 4 + 1, none⟩ = some g1 := (HBW.out.cell (p := ⟨b', i * 4 + 1, none⟩) hbl').trans h1'
        have s2 : wr.cell? ⟨b', i * 4 + 2, none⟩ = some g2 := (HBW.out.cell (p := ⟨b', i * 4 + 2, none⟩) hbl').trans h2'
        have s3 : wr.cell? ⟨b', i * 4 + 3, none⟩ = some g3 := (HBW.out.cell (p := ⟨b', i * 4 + 3, none⟩) hbl').trans h3'
        have p3 : wr.cell? ⟨w.heap.size, 3, none⟩ = some (.slice (some ⟨b, 0, none⟩) l.length cap) := (HBr.out.cell (p := ⟨w.heap.size, 3, none⟩) (by have := HS2.out; show w.heap.size < w2.heap.size; omega)).trans (Mm.cell_of HP2.out rfl)
        have q3 : wr.cell? ⟨w.heap.size + 1, 3, none⟩ = some (.slice (some ⟨b', 0, none⟩) l.length cap') := (HBr.out.cell (p := ⟨w.heap.size + 1, 3, none⟩) (by have := HS2.out; show w.heap.size + 1 < w2.heap.size; omega)).trans (Mm.cell_of HR2.out rfl)
        have HREP := Pl.hid hrep
        have HREP' := Pl.hid hrep'
        have HLN : Hid ((l[i]'hlt).sz ≤ 1073741824) := by have := RT.szL_mem (List.getElem_mem hlt); have := HSZ.out; show _ ≤ _; omega
        clear h0 h1 h2 h3 h0' h1' h2' h3' hrep hrep' hel hel'
        go_wp2_with fail
        go_region_law (go_simp; go_at_call 21; (refine (IH.out _ (List.getElem_mem hlt) HLN.out f0 f1 f2 f3 g0 g1 g2 g3 HREP.out HREP'.out _ (by first | exact HBW.out | exact HBW.out.drew)).mono ?_; rintro e w5 ⟨rfl, hb5⟩; have HB5 := Pl.hid hb5; clear hb5))
        all_goals
          clear r0 r1 r2 r3 s0 s1 s2 s3 p3 q3
          go_wp2_with fail
          have HB6 : Below wr.heap.size wr w5 := by first | exact HB5.out | exact Mm.undrew HB5.out
          exact ⟨⟨i + 1, by go_num, hlt, HBr.out.trans (HB6.mono HBr.out.size)⟩, by simp [intOf]; omega⟩
      · obtain rfl : i = l.length := by omega
        go_wp2_with fail
        go_ret
        exact ⟨rfl, HB2.out.trans (HBr.out.mono HB2.out.size)⟩
end Go.Proofs.YtakldjdohgmeiaaDoor
