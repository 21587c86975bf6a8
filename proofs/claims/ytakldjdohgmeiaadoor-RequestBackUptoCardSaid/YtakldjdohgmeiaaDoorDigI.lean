/- Contract of the reference's Text: a number's word. Condition: the number fits 64 bits. -/
import Derived.Test.YtakldjdohgmeiaaDoorDigE
namespace Go.Proofs.YtakldjdohgmeiaaDoor
open Go.RowKit
set_option maxRecDepth 20000

namespace Pl
theorem dec_big {u : Nat} (h : ¬ u < 10) : Lib.decDigits u = Lib.decDigits (u / 10) ++ [UInt8.ofNat (48 + u % 10)] := by rw [Lib.decDigits, dif_neg h]
theorem dec_small {u : Nat} (h : u < 10) : Lib.decDigits u = [UInt8.ofNat (48 + u)] := by rw [Lib.decDigits, dif_pos h]
/-- one digit out of the ten -/
theorem ten_fin : ∀ k : Fin 10, (⟨#[48, 49, 50, 51, 52, 53, 54, 55, 56, 57]⟩ : ByteArray).extract k.val (k.val + 1) = B [UInt8.ofNat (48 + k.val)] := by decide +kernel
theorem ten_one {k : Nat} (h : k < 10) : (⟨#[48, 49, 50, 51, 52, 53, 54, 55, 56, 57]⟩ : ByteArray).extract k (k + 1) = B [UInt8.ofNat (48 + k)] := ten_fin ⟨k, h⟩
theorem ten_zero : (⟨#[48, 49, 50, 51, 52, 53, 54, 55, 56, 57]⟩ : ByteArray).extract 0 1 = B [UInt8.ofNat (48 + 0)] := ten_one (k := 0) (by decide)
theorem B_append (a b : List UInt8) : B a ++ B b = B (a ++ b) := by
  apply ba_ext
  rw [L_B]
  unfold L B
  rw [ByteArray.data_append]
  simp
theorem tmod_neg (u : Nat) : (-(u : Int)).tmod 10 = -((u % 10 : Nat) : Int) := by rw [Int.neg_tmod, Int.tmod_eq_emod_of_nonneg (by omega)]; omega
theorem tdiv_neg (u : Nat) : (-(u : Int)).tdiv 10 = -((u / 10 : Nat) : Int) := by rw [Int.neg_tdiv, Int.tdiv_eq_ediv_of_nonneg (by omega)]; omega
theorem tmod_pos (u : Nat) : ((u : Int)).tmod 10 = ((u % 10 : Nat) : Int) := by rw [Int.tmod_eq_emod_of_nonneg (by omega)]; omega
theorem tdiv_pos (u : Nat) : ((u : Int)).tdiv 10 = ((u / 10 : Nat) : Int) := by rw [Int.tdiv_eq_ediv_of_nonneg (by omega)]; omega
theorem dec_step {t acc : List UInt8} {u k : Nat} (h : t = Lib.decDigits u ++ acc) (hu : ¬ u < 10) (hk : k = u % 10) : t = Lib.decDigits (u / 10) ++ ([UInt8.ofNat (48 + k)] ++ acc) := by
  rw [h, dec_big hu, hk, List.append_assoc]
theorem dec_last {t acc : List UInt8} {u k : Nat} (h : t = Lib.decDigits u ++ acc) (hu : u < 10) (hk : k = u % 10) : [UInt8.ofNat (48 + k)] ++ acc = t := by
  rw [h, dec_small hu, hk, Nat.mod_eq_of_lt hu]
theorem dec_acc {n : Int} (hn : In64 n) {acc : List UInt8} {u : Nat} (h : Lib.decDigits n.natAbs = Lib.decDigits u ++ acc) : acc.length ≤ 21 := by
  have h1 := itoa_le n hn
  have h2 : (Lib.decDigits n.natAbs).length ≤ (Lib.itoa n).length := by
    by_cases h0 : n < 0
    · rw [itoa_neg h0, List.length_cons]
      omega
    · rw [itoa_pos (by omega), show n.natAbs = n.toNat by omega]
      exact Nat.le_refl _
  rw [h, List.length_append] at h2
  omega
end Pl

theorem ten_run (k : Nat) (h : k < 10) (w : World) : (Instr.slice 9 (.string ⟨#[48, 49, 50, 51, 52, 53, 54, 55, 56, 57]⟩) (some (.int .i64 (k : Int))) (some (.int .i64 ((k : Int) + 1))) none).run Tryd.prog w = .ok (.string (Pl.B [UInt8.ofNat (48 + k)])) w := by
  rw [run_slice_string w 9 _ .i64 .i64 (k : Int) ((k : Int) + 1) Tryd.underlying9 (by omega) (by omega) (by show _ ≤ (10 : Int); omega)]
  rw [← Pl.ten_one h]
  congr 3

theorem reftext_walk (n : Int) (w : World) (hn : Pl.In64 n) :
    Calls Tryd.prog 69 #[.int .i64 n] w fun e w' => e = .returned (.string (Pl.B (Lib.itoa n))) ∧ w = w' := by
  have HN := Pl.hid hn
  obtain ⟨n1, n2⟩ := hn
  rcases Int.lt_or_le n 0 with hneg | hpos
  · have HI := Pl.hid (Pl.itoa_neg hneg)
    go_enter Tryd.func69, Tryd.ntmps69
    go_wp2_with fail
    go_loop [3, 4] (fun sv mv => ∃ (m : Int) (u : Nat) (acc : List UInt8) (S : ByteArray), mv = .int .i64 m ∧ sv = .string S ∧ m < 0 ∧ n ≤ m ∧ Hid (S = Pl.B acc) ∧ Hid (m = -(u : Int)) ∧ Hid (Lib.decDigits n.natAbs = Lib.decDigits u ++ acc)) (fun _ m => (intOf m).natAbs)
    case atStart => exact ⟨n, n.natAbs, [], _, rfl, rfl, hneg, Int.le_refl _, rfl, (show n = _ by omega), (show _ = _ by rw [List.append_nil])⟩
    case round =>
      obtain ⟨m, u, acc, S, rfl, rfl, hm0, hmn, HS, HU, HD⟩ := hrel
      have hsz : S.size ≤ 21 := by rw [HS.out, Pl.B_size]; exact Pl.dec_acc HN.out HD.out
      have hu := HU.out
      have hmod : m.tmod 10 = -((u % 10 : Nat) : Int) := by rw [hu]; exact Pl.tmod_neg u
      have hdiv : m.tdiv 10 = -((u / 10 : Nat) : Int) := by rw [hu]; exact Pl.tdiv_neg u
      obtain ⟨k, hk⟩ : ∃ k, k = u % 10 := ⟨_, rfl⟩
      obtain ⟨T, hT⟩ : ∃ T, T = Pl.B [UInt8.ofNat (48 + k)] := ⟨_, rfl⟩
      have hk9 : k < 10 := by omega
      have hTs : T.size ≤ 1 := by rw [hT, Pl.B_size]; exact Nat.le_refl _
      have hrun := fun w' => ten_run k hk9 w'
      rw [← hT] at hrun
      rw [← hk] at hmod
      have HK := Pl.hid hk
      have HT := Pl.hid hT
      clear hk hT
      by_cases hlast : u < 10
      · have HL := Pl.hid (Pl.dec_last HD.out hlast HK.out)
        rw [show u / 10 = 0 by omega] at hdiv
        clear hu hlast
        rcases Nat.eq_zero_or_pos k with rfl | hk1
        · go_wp2_with fail
          go_ret
          exact ⟨Pl.ret1s (by rw [HI.out, ← HL.out, Pl.ten_zero, HS.out, Pl.B_append, show (⟨#[45]⟩ : ByteArray) = Pl.B [45] from rfl, Pl.B_append]; rfl), rfl⟩
        · go_wp2_with fail
          go_ret
          exact ⟨Pl.ret1s (by rw [HI.out, ← HL.out, HT.out, HS.out, Pl.B_append, show (⟨#[45]⟩ : ByteArray) = Pl.B [45] from rfl, Pl.B_append]; rfl), rfl⟩
      · have HL := Pl.hid (Pl.dec_step HD.out hlast HK.out)
        obtain ⟨q, hq⟩ : ∃ q : Int, q = -((u / 10 : Nat) : Int) := ⟨_, rfl⟩
        have hq0 : q < 0 ∧ n ≤ q := by omega
        have hq1 : (q == 0) = false := beq_eq_false_iff_ne.2 (by omega)
        have HM : Hid (q.natAbs < m.natAbs) := by show _ < _; omega
        rw [← hq] at hdiv
        have HQ := Pl.hid hq
        clear hu hlast hq
        rcases Nat.eq_zero_or_pos k with rfl | hk1
        · go_wp2_with fail
          go_round
          case rel => exact ⟨q, u / 10, [UInt8.ofNat (48 + 0)] ++ acc, _, rfl, rfl, by omega, by omega, (show _ = _ by rw [Pl.ten_zero, HS.out, Pl.B_append]), HQ, HL⟩
          case measure => simp only [intOf]; exact HM.out
        · go_wp2_with fail
          go_round
          case rel => exact ⟨q, u / 10, [UInt8.ofNat (48 + k)] ++ acc, _, rfl, rfl, by omega, by omega, (show _ = _ by rw [HT.out, HS.out, Pl.B_append]), HQ, HL⟩
          case measure => simp only [intOf]; exact HM.out
  · have HI := Pl.hid (Pl.itoa_pos hpos)
    go_enter Tryd.func69, Tryd.ntmps69
    go_wp2_with fail
    go_loop [3, 4] (fun sv mv => ∃ (m : Int) (u : Nat) (acc : List UInt8) (S : ByteArray), mv = .int .i64 m ∧ sv = .string S ∧ 0 ≤ m ∧ m ≤ n ∧ Hid (S = Pl.B acc) ∧ Hid (m = (u : Int)) ∧ Hid (Lib.decDigits n.natAbs = Lib.decDigits u ++ acc)) (fun _ m => (intOf m).natAbs)
    case atStart => exact ⟨n, n.natAbs, [], _, rfl, rfl, hpos, Int.le_refl _, rfl, (show n = _ by omega), (show _ = _ by rw [List.append_nil])⟩
    case round =>
      obtain ⟨m, u, acc, S, rfl, rfl, hm0, hmn, HS, HU, HD⟩ := hrel
      have hsz : S.size ≤ 21 := by rw [HS.out, Pl.B_size]; exact Pl.dec_acc HN.out HD.out
      have hu := HU.out
      have hmod : m.tmod 10 = ((u % 10 : Nat) : Int) := by rw [hu]; exact Pl.tmod_pos u
      have hdiv : m.tdiv 10 = ((u / 10 : Nat) : Int) := by rw [hu]; exact Pl.tdiv_pos u
      obtain ⟨k, hk⟩ : ∃ k, k = u % 10 := ⟨_, rfl⟩
      obtain ⟨T, hT⟩ : ∃ T, T = Pl.B [UInt8.ofNat (48 + k)] := ⟨_, rfl⟩
      have hk9 : k < 10 := by omega
      have hTs : T.size ≤ 1 := by rw [hT, Pl.B_size]; exact Nat.le_refl _
      have hrun := fun w' => ten_run k hk9 w'
      rw [← hT] at hrun
      rw [← hk] at hmod
      have HK := Pl.hid hk
      have HT := Pl.hid hT
      clear hk hT
      have hmod2 : m % 10 = (k : Int) := by rw [hu]; have := HK.out; omega
      have hdiv2 : m / 10 = ((u / 10 : Nat) : Int) := by rw [hu]; omega
      by_cases hlast : u < 10
      · have HL := Pl.hid (Pl.dec_last HD.out hlast HK.out)
        have HAbs : Hid (n.natAbs = n.toNat) := by show _ = _; omega
        rw [show u / 10 = 0 by omega] at hdiv hdiv2
        clear hu hlast
        go_wp2_with fail
        go_ret
        exact ⟨Pl.ret1s (by rw [HI.out, HT.out, HS.out, Pl.B_append, HL.out, HAbs.out]), rfl⟩
      · have HL := Pl.hid (Pl.dec_step HD.out hlast HK.out)
        obtain ⟨q, hq⟩ : ∃ q : Int, q = ((u / 10 : Nat) : Int) := ⟨_, rfl⟩
        have hq0 : 0 < q ∧ q ≤ n := by omega
        have hq1 : (q == 0) = false := beq_eq_false_iff_ne.2 (by omega)
        have HM : Hid (q.natAbs < m.natAbs) := by show _ < _; omega
        rw [← hq] at hdiv hdiv2
        have HQ := Pl.hid hq
        clear hu hlast hq
        go_wp2_with fail
        go_round
        case rel => exact ⟨q, u / 10, [UInt8.ofNat (48 + k)] ++ acc, _, rfl, rfl, by omega, by omega, (show _ = _ by rw [HT.out, HS.out, Pl.B_append]), HQ, HL⟩
        case measure => simp only [intOf]; exact HM.out
end Go.Proofs.YtakldjdohgmeiaaDoor
