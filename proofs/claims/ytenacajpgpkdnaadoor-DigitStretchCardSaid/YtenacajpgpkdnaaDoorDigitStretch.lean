/- pantrylaw01.DigitStretch: at every three numbers the law returns true. The table of powers and the two errors of the library stand as they were laid. -/
import Derived.Test.YtenacajpgpkdnaaDoorDigJ
import Derived.Test.YtenacajpgpkdnaaDoorDoor
namespace Go.Proofs.YtenacajpgpkdnaaDoor.digitStretch
open Go.ChangeShapes Go.WideShapes Go.ChangeAt Go.RowKit

theorem sp_none (a b n : Int) (h : n ≤ 0) : Pl.spF a b n = 0 ∧ Pl.spT a b n = 0 ∧ Pl.plB a n = false := by
  have hn : Pl.nn n = 0 := by unfold Pl.nn; split <;> omega
  unfold Pl.spF Pl.spT Pl.plB
  rw [hn]
  refine ⟨?_, ?_, decide_eq_false (by omega)⟩
  · split <;> (repeat' split) <;> omega
  · split <;> (repeat' split) <;> omega
theorem sp_order (a b n : Int) (h : 0 < n) : 0 ≤ Pl.spF a b n ∧ Pl.spF a b n ≤ Pl.spT a b n ∧ Pl.spT a b n ≤ n := by
  have hn : Pl.nn n = n := by unfold Pl.nn; split <;> omega
  unfold Pl.spF Pl.spT
  rw [hn]
  split <;> (repeat' split) <;> omega
/-- which places lie in the stretch -/
theorem sp_in (a b n k : Int) (h : 0 < n) (h1 : n ≤ 1000) (k0 : 0 ≤ k) (k1 : k < n) : (Pl.cnt' a n ≤ k ∧ k ≤ Pl.cnt' b n) ↔ (Pl.spF a b n ≤ k ∧ k < Pl.spT a b n) := by
  have hn : Pl.nn n = n := by unfold Pl.nn; split <;> omega
  unfold Pl.spF Pl.spT Pl.cnt Pl.cnt'
  rw [hn]
  (repeat' split) <;> omega
theorem pl_at (a n k : Int) (h : 0 < n) (h1 : n ≤ 1000) (k0 : 0 ≤ k) (k1 : k < n) : (k = Pl.cnt' a n) ↔ (Pl.plB a n = true ∧ Pl.plV a n = k) := by
  have hn : Pl.nn n = n := by unfold Pl.nn; split <;> omega
  unfold Pl.plB Pl.plV Pl.cnt Pl.cnt'
  rw [hn, decide_eq_true_eq]
  (repeat' split) <;> omega
theorem sp_some (a b n : Int) (h : 0 < n) : Pl.spF a b n < Pl.spT a b n ∨ Pl.spF a b n = 0 ∧ Pl.spT a b n = 0 := by
  have hn : Pl.nn n = n := by unfold Pl.nn; split <;> omega
  unfold Pl.spF Pl.spT
  rw [hn]
  split <;> (repeat' split) <;> omega

/-- one place, all ways -/
theorem ways (A B F T V k : Int) (O : Bool) (hs : (A ≤ k ∧ k ≤ B) ↔ (F ≤ k ∧ k < T)) (hp : (k = A) ↔ (O = true ∧ V = k)) :
    (A = k ∧ O = true ∧ V = k ∧ k ≤ B ∧ F ≤ k ∧ k < T) ∨ (A = k ∧ O = true ∧ V = k ∧ B < k ∧ k < F) ∨ (A = k ∧ O = true ∧ V = k ∧ B < k ∧ F ≤ k ∧ T ≤ k) ∨
    (((k == A) = false ∧ (O = false ∨ (O = true ∧ (V == k) = false))) ∧ ((A ≤ k ∧ k ≤ B ∧ F ≤ k ∧ k < T) ∨ (k < A ∧ k < F) ∨ (k < A ∧ F ≤ k ∧ T ≤ k) ∨ (A ≤ k ∧ B < k ∧ k < F) ∨ (A ≤ k ∧ B < k ∧ F ≤ k ∧ T ≤ k))) := by
  by_cases e : k = A
  · obtain ⟨h1, h2⟩ := hp.1 e
    have : (A ≤ k ∧ k ≤ B) ∨ B < k := by omega
    rcases Int.lt_or_le B k with hb | hb
    · have hn : ¬ (F ≤ k ∧ k < T) := fun h => by have := hs.2 h; omega
      rcases Int.lt_or_le k F with hf | hf
      · exact .inr (.inl ⟨e.symm, h1, h2, hb, hf⟩)
      · exact .inr (.inr (.inl ⟨e.symm, h1, h2, hb, hf, by omega⟩))
    · have := hs.1 ⟨by omega, hb⟩
      exact .inl ⟨e.symm, h1, h2, hb, this.1, this.2⟩
  · have h1 : (k == A) = false := beq_eq_false_iff_ne.2 e
    have h2 : O = false ∨ (O = true ∧ (V == k) = false) := by
      rcases Bool.eq_false_or_eq_true O with h | h
      · exact .inr ⟨h, beq_eq_false_iff_ne.2 fun hv => e (hp.2 ⟨h, hv⟩)⟩
      · exact .inl h
    refine .inr (.inr (.inr ⟨⟨h1, h2⟩, ?_⟩))
    rcases Int.lt_or_le k A with ha | ha
    · have hn : ¬ (F ≤ k ∧ k < T) := fun h => by have := hs.2 h; omega
      rcases Int.lt_or_le k F with hf | hf
      · exact .inr (.inl ⟨ha, hf⟩)
      · exact .inr (.inr (.inl ⟨ha, hf, by omega⟩))
    · rcases Int.lt_or_le B k with hb | hb
      · have hn : ¬ (F ≤ k ∧ k < T) := fun h => by have := hs.2 h; omega
        rcases Int.lt_or_le k F with hf | hf
        · exact .inr (.inr (.inr (.inl ⟨ha, hb, hf⟩)))
        · exact .inr (.inr (.inr (.inr ⟨ha, hb, hf, by omega⟩)))
      · have := hs.1 ⟨ha, hb⟩
        exact .inl ⟨ha, hb, this.1, this.2⟩

set_option maxHeartbeats 8000000 in
set_option maxRecDepth 20000 in
theorem walk (a b n : Int) (ha : Pl.In64 a) (hb : Pl.In64 b) (hn : Pl.In64 n) (w : World) (hT : Mm.Tab w) (hE : Mm.Errs w) :
    Calls Tryd.prog 9 #[.int .i64 a, .int .i64 b, .int .i64 n] w fun e w' => e = .returned (.bool true) ∧ Below w.heap.size w w' := by
  have HE := Pl.hid hE
  have HT := Pl.hid hT
  have HA := Pl.hid ha
  have HB := Pl.hid hb
  have HN := Pl.hid hn
  clear hE hT ha hb hn
  obtain ⟨F, hF⟩ : ∃ F, Pl.spF a b n = F := ⟨_, rfl⟩
  obtain ⟨T, hTT⟩ : ∃ T, Pl.spT a b n = T := ⟨_, rfl⟩
  obtain ⟨V, hV⟩ : ∃ V, Pl.plV a n = V := ⟨_, rfl⟩
  obtain ⟨O, hO⟩ : ∃ O, Pl.plB a n = O := ⟨_, rfl⟩
  rcases Int.lt_or_le 0 n with h0 | h0
  · obtain ⟨o1, o2, o3⟩ := sp_order a b n h0
    rw [hF] at o1 o2
    rw [hTT] at o2 o3
    rcases Int.lt_or_le 1000 n with h1 | h1
    · have H_F := Pl.hid hF
      have H_T := Pl.hid hTT
      clear hF hTT hV hO
      go_enter Tryd.func9, Tryd.ntmps9
      go_wp2_with fail
      refine (wakes01_walk _ HT.out HE.out).mono ?_
      rintro e w1 ⟨rfl, hb⟩
      have H1 := Pl.hid hb
      clear hb
      go_wp2_with fail
      refine (span_known _ HA.out HB.out HN.out H_F.out H_T.out).mono ?_
      rintro e w2 ⟨rfl, rfl⟩
      go_wp2_with fail
      go_ret
      exact ⟨rfl, H1.out⟩
    · have HS : Hid (∀ k : Int, 0 ≤ k → k < n → ((Pl.cnt' a n ≤ k ∧ k ≤ Pl.cnt' b n) ↔ (F ≤ k ∧ k < T))) := fun k k0 k1 => by
        have := sp_in a b n k h0 h1 k0 k1
        rwa [hF, hTT] at this
      have HP : Hid (∀ k : Int, 0 ≤ k → k < n → ((k = Pl.cnt' a n) ↔ (O = true ∧ V = k))) := fun k k0 k1 => by
        have := pl_at a n k h0 h1 k0 k1
        rwa [hO, hV] at this
      have HX : Hid (F < T ∨ F = 0 ∧ T = 0) := by
        have := sp_some a b n h0
        rwa [hF, hTT] at this
      have H_F := Pl.hid hF
      have H_T := Pl.hid hTT
      have H_V := Pl.hid hV
      have H_O := Pl.hid hO
      clear hF hTT hV hO
      obtain ⟨N, rfl⟩ := Int.eq_ofNat_of_zero_le (Int.le_of_lt h0)
      go_enter Tryd.func9, Tryd.ntmps9
      go_wp2_with fail
      refine (wakes01_walk _ HT.out HE.out).mono ?_
      rintro e w1 ⟨rfl, hb⟩
      have H1 := Pl.hid hb
      clear hb
      go_wp2_with fail
      refine (span_known _ HA.out HB.out HN.out H_F.out H_T.out).mono ?_
      rintro e w2 ⟨rfl, rfl⟩
      go_wp2_with fail
      refine (place_known _ HA.out HN.out H_V.out H_O.out).mono ?_
      rintro e w3 ⟨rfl, rfl⟩
      go_wp2_with fail
      go_loop [13, 64] (fun sm i => ∃ (k : Nat) (x : Bool), k ≤ N ∧ i = .int .i64 k ∧ sm = .bool x ∧ Hid (x = true ↔ (F < T ∧ F < (k : Int)))) (fun _ i => N - (intOf i).toNat)
      case atStart => exact ⟨0, false, Nat.zero_le _, rfl, rfl, (show _ ↔ _ from ⟨(fun h => by cases h), (fun h => absurd h.2 (by omega))⟩)⟩
      case round =>
        obtain ⟨k, x, hk, rfl, rfl, HK⟩ := hrel
        by_cases hlt : k < N
        · obtain ⟨A, hA⟩ : ∃ A, Pl.cnt' a (N : Int) = A := ⟨_, rfl⟩
          obtain ⟨B, hB⟩ : ∃ B, Pl.cnt' b (N : Int) = B := ⟨_, rfl⟩
          have hs := HS.out k (by omega) (by omega)
          have hp := HP.out k (by omega) (by omega)
          rw [hA, hB] at hs
          rw [hA] at hp
          have H_A := Pl.hid hA
          have H_B := Pl.hid hB
          clear hA hB
          have CA : ∀ w, Calls Tryd.prog 52 #[.int .i64 a, .int .i64 (N : Int)] w fun e w' => e = .returned (.int .i64 A) ∧ w = w' := fun w => by
            rw [← H_A.out]
            exact counted_walk a N w HA.out (by omega) h1
          have CB : ∀ w, Calls Tryd.prog 52 #[.int .i64 b, .int .i64 (N : Int)] w fun e w' => e = .returned (.int .i64 B) ∧ w = w' := fun w => by
            rw [← H_B.out]
            exact counted_walk b N w HB.out (by omega) h1
          have HCA := Pl.hid CA
          have HCB := Pl.hid CB
          have HWAY := Pl.hid (ways A B F T V k O hs hp)
          have HXK := HK
          have hk1 : k + 1 ≤ N := hlt
          clear HK HS HP HX CA CB H_A H_B H_V H_O H_F H_T hs hp
          rcases Bool.eq_false_or_eq_true x with rfl | rfl
          all_goals
            have hx := HXK.out
            simp only [Bool.false_eq_true, false_iff, true_iff] at hx
          · rcases HWAY.out with ⟨rfl, rfl, rfl, c1, c2, c3⟩ | ⟨rfl, rfl, rfl, c1, c2⟩ | ⟨rfl, rfl, rfl, c1, c2, c3⟩ | ⟨⟨d1, rfl | ⟨rfl, d2⟩⟩, ⟨c0, c1, c2, c3⟩ | ⟨c0, c1⟩ | ⟨c0, c1, c2⟩ | ⟨c0, c1, c2⟩ | ⟨c0, c1, c2, c3⟩⟩
            · clear HWAY
              go_wp2_with fail
              refine (HCA.out _).mono ?_
              rintro e w2 ⟨rfl, rfl⟩
              go_wp2_with fail
              refine (HCB.out _).mono ?_
              rintro e w2 ⟨rfl, rfl⟩
              go_wp2_with fail
              refine (HCA.out _).mono ?_
              rintro e w2 ⟨rfl, rfl⟩
              go_wp2_with fail
              all_goals go_round
              all_goals first
                | exact ⟨k + 1, true, hk1, by go_num, rfl, (show _ ↔ _ from ⟨(fun _ => by omega), (fun _ => rfl)⟩)⟩
                | exact ⟨k + 1, false, hk1, by go_num, rfl, (show _ ↔ _ from ⟨(fun h => by cases h), (fun h => by omega)⟩)⟩
                | (first | exact ⟨k + 1, _, hk1, by go_num, rfl, (show _ ↔ _ by rw [decide_eq_true_eq]; omega)⟩ | (simp [intOf]; omega))
            · exfalso; omega
            · clear HWAY
              go_wp2_with fail
              refine (HCA.out _).mono ?_
              rintro e w2 ⟨rfl, rfl⟩
              go_wp2_with fail
              refine (HCB.out _).mono ?_
              rintro e w2 ⟨rfl, rfl⟩
              go_wp2_with fail
              refine (HCA.out _).mono ?_
              rintro e w2 ⟨rfl, rfl⟩
              go_wp2_with fail
              all_goals go_round
              all_goals first
                | exact ⟨k + 1, true, hk1, by go_num, rfl, (show _ ↔ _ from ⟨(fun _ => by omega), (fun _ => rfl)⟩)⟩
                | exact ⟨k + 1, false, hk1, by go_num, rfl, (show _ ↔ _ from ⟨(fun h => by cases h), (fun h => by omega)⟩)⟩
                | (first | exact ⟨k + 1, _, hk1, by go_num, rfl, (show _ ↔ _ by rw [decide_eq_true_eq]; omega)⟩ | (simp [intOf]; omega))
            · clear HWAY
              go_wp2_with fail
              refine (HCA.out _).mono ?_
              rintro e w2 ⟨rfl, rfl⟩
              go_wp2_with fail
              refine (HCB.out _).mono ?_
              rintro e w2 ⟨rfl, rfl⟩
              go_wp2_with fail
              refine (HCA.out _).mono ?_
              rintro e w2 ⟨rfl, rfl⟩
              go_wp2_with fail
              all_goals go_round
              all_goals first
                | exact ⟨k + 1, true, hk1, by go_num, rfl, (show _ ↔ _ from ⟨(fun _ => by omega), (fun _ => rfl)⟩)⟩
                | exact ⟨k + 1, false, hk1, by go_num, rfl, (show _ ↔ _ from ⟨(fun h => by cases h), (fun h => by omega)⟩)⟩
                | (first | exact ⟨k + 1, _, hk1, by go_num, rfl, (show _ ↔ _ by rw [decide_eq_true_eq]; omega)⟩ | (simp [intOf]; omega))
            · exfalso; omega
            · clear HWAY
              go_wp2_with fail
              refine (HCA.out _).mono ?_
              rintro e w2 ⟨rfl, rfl⟩
              go_wp2_with fail
              refine (HCA.out _).mono ?_
              rintro e w2 ⟨rfl, rfl⟩
              go_wp2_with fail
              all_goals go_round
              all_goals first
                | exact ⟨k + 1, true, hk1, by go_num, rfl, (show _ ↔ _ from ⟨(fun _ => by omega), (fun _ => rfl)⟩)⟩
                | exact ⟨k + 1, false, hk1, by go_num, rfl, (show _ ↔ _ from ⟨(fun h => by cases h), (fun h => by omega)⟩)⟩
                | (first | exact ⟨k + 1, _, hk1, by go_num, rfl, (show _ ↔ _ by rw [decide_eq_true_eq]; omega)⟩ | (simp [intOf]; omega))
            · exfalso; omega
            · clear HWAY
              go_wp2_with fail
              refine (HCA.out _).mono ?_
              rintro e w2 ⟨rfl, rfl⟩
              go_wp2_with fail
              refine (HCB.out _).mono ?_
              rintro e w2 ⟨rfl, rfl⟩
              go_wp2_with fail
              refine (HCA.out _).mono ?_
              rintro e w2 ⟨rfl, rfl⟩
              go_wp2_with fail
              all_goals go_round
              all_goals first
                | exact ⟨k + 1, true, hk1, by go_num, rfl, (show _ ↔ _ from ⟨(fun _ => by omega), (fun _ => rfl)⟩)⟩
                | exact ⟨k + 1, false, hk1, by go_num, rfl, (show _ ↔ _ from ⟨(fun h => by cases h), (fun h => by omega)⟩)⟩
                | (first | exact ⟨k + 1, _, hk1, by go_num, rfl, (show _ ↔ _ by rw [decide_eq_true_eq]; omega)⟩ | (simp [intOf]; omega))
            · clear HWAY
              go_wp2_with fail
              refine (HCA.out _).mono ?_
              rintro e w2 ⟨rfl, rfl⟩
              go_wp2_with fail
              refine (HCB.out _).mono ?_
              rintro e w2 ⟨rfl, rfl⟩
              go_wp2_with fail
              refine (HCA.out _).mono ?_
              rintro e w2 ⟨rfl, rfl⟩
              go_wp2_with fail
              all_goals go_round
              all_goals first
                | exact ⟨k + 1, true, hk1, by go_num, rfl, (show _ ↔ _ from ⟨(fun _ => by omega), (fun _ => rfl)⟩)⟩
                | exact ⟨k + 1, false, hk1, by go_num, rfl, (show _ ↔ _ from ⟨(fun h => by cases h), (fun h => by omega)⟩)⟩
                | (first | exact ⟨k + 1, _, hk1, by go_num, rfl, (show _ ↔ _ by rw [decide_eq_true_eq]; omega)⟩ | (simp [intOf]; omega))
            · exfalso; omega
            · clear HWAY
              go_wp2_with fail
              refine (HCA.out _).mono ?_
              rintro e w2 ⟨rfl, rfl⟩
              go_wp2_with fail
              refine (HCA.out _).mono ?_
              rintro e w2 ⟨rfl, rfl⟩
              go_wp2_with fail
              all_goals go_round
              all_goals first
                | exact ⟨k + 1, true, hk1, by go_num, rfl, (show _ ↔ _ from ⟨(fun _ => by omega), (fun _ => rfl)⟩)⟩
                | exact ⟨k + 1, false, hk1, by go_num, rfl, (show _ ↔ _ from ⟨(fun h => by cases h), (fun h => by omega)⟩)⟩
                | (first | exact ⟨k + 1, _, hk1, by go_num, rfl, (show _ ↔ _ by rw [decide_eq_true_eq]; omega)⟩ | (simp [intOf]; omega))
            · exfalso; omega
            · clear HWAY
              go_wp2_with fail
              refine (HCA.out _).mono ?_
              rintro e w2 ⟨rfl, rfl⟩
              go_wp2_with fail
              refine (HCB.out _).mono ?_
              rintro e w2 ⟨rfl, rfl⟩
              go_wp2_with fail
              refine (HCA.out _).mono ?_
              rintro e w2 ⟨rfl, rfl⟩
              go_wp2_with fail
              all_goals go_round
              all_goals first
                | exact ⟨k + 1, true, hk1, by go_num, rfl, (show _ ↔ _ from ⟨(fun _ => by omega), (fun _ => rfl)⟩)⟩
                | exact ⟨k + 1, false, hk1, by go_num, rfl, (show _ ↔ _ from ⟨(fun h => by cases h), (fun h => by omega)⟩)⟩
                | (first | exact ⟨k + 1, _, hk1, by go_num, rfl, (show _ ↔ _ by rw [decide_eq_true_eq]; omega)⟩ | (simp [intOf]; omega))
          · rcases HWAY.out with ⟨rfl, rfl, rfl, c1, c2, c3⟩ | ⟨rfl, rfl, rfl, c1, c2⟩ | ⟨rfl, rfl, rfl, c1, c2, c3⟩ | ⟨⟨d1, rfl | ⟨rfl, d2⟩⟩, ⟨c0, c1, c2, c3⟩ | ⟨c0, c1⟩ | ⟨c0, c1, c2⟩ | ⟨c0, c1, c2⟩ | ⟨c0, c1, c2, c3⟩⟩
            · clear HWAY
              go_wp2_with fail
              refine (HCA.out _).mono ?_
              rintro e w2 ⟨rfl, rfl⟩
              go_wp2_with fail
              refine (HCB.out _).mono ?_
              rintro e w2 ⟨rfl, rfl⟩
              go_wp2_with fail
              refine (HCA.out _).mono ?_
              rintro e w2 ⟨rfl, rfl⟩
              go_wp2_with fail
              all_goals go_round
              all_goals first
                | exact ⟨k + 1, true, hk1, by go_num, rfl, (show _ ↔ _ from ⟨(fun _ => by omega), (fun _ => rfl)⟩)⟩
                | exact ⟨k + 1, false, hk1, by go_num, rfl, (show _ ↔ _ from ⟨(fun h => by cases h), (fun h => by omega)⟩)⟩
                | (first | exact ⟨k + 1, _, hk1, by go_num, rfl, (show _ ↔ _ by rw [decide_eq_true_eq]; omega)⟩ | (simp [intOf]; omega))
            · clear HWAY
              go_wp2_with fail
              refine (HCA.out _).mono ?_
              rintro e w2 ⟨rfl, rfl⟩
              go_wp2_with fail
              refine (HCB.out _).mono ?_
              rintro e w2 ⟨rfl, rfl⟩
              go_wp2_with fail
              refine (HCA.out _).mono ?_
              rintro e w2 ⟨rfl, rfl⟩
              go_wp2_with fail
              all_goals go_round
              all_goals first
                | exact ⟨k + 1, true, hk1, by go_num, rfl, (show _ ↔ _ from ⟨(fun _ => by omega), (fun _ => rfl)⟩)⟩
                | exact ⟨k + 1, false, hk1, by go_num, rfl, (show _ ↔ _ from ⟨(fun h => by cases h), (fun h => by omega)⟩)⟩
                | (first | exact ⟨k + 1, _, hk1, by go_num, rfl, (show _ ↔ _ by rw [decide_eq_true_eq]; omega)⟩ | (simp [intOf]; omega))
            · clear HWAY
              go_wp2_with fail
              refine (HCA.out _).mono ?_
              rintro e w2 ⟨rfl, rfl⟩
              go_wp2_with fail
              refine (HCB.out _).mono ?_
              rintro e w2 ⟨rfl, rfl⟩
              go_wp2_with fail
              refine (HCA.out _).mono ?_
              rintro e w2 ⟨rfl, rfl⟩
              go_wp2_with fail
              all_goals go_round
              all_goals first
                | exact ⟨k + 1, true, hk1, by go_num, rfl, (show _ ↔ _ from ⟨(fun _ => by omega), (fun _ => rfl)⟩)⟩
                | exact ⟨k + 1, false, hk1, by go_num, rfl, (show _ ↔ _ from ⟨(fun h => by cases h), (fun h => by omega)⟩)⟩
                | (first | exact ⟨k + 1, _, hk1, by go_num, rfl, (show _ ↔ _ by rw [decide_eq_true_eq]; omega)⟩ | (simp [intOf]; omega))
            · clear HWAY
              go_wp2_with fail
              refine (HCA.out _).mono ?_
              rintro e w2 ⟨rfl, rfl⟩
              go_wp2_with fail
              refine (HCB.out _).mono ?_
              rintro e w2 ⟨rfl, rfl⟩
              go_wp2_with fail
              refine (HCA.out _).mono ?_
              rintro e w2 ⟨rfl, rfl⟩
              go_wp2_with fail
              all_goals go_round
              all_goals first
                | exact ⟨k + 1, true, hk1, by go_num, rfl, (show _ ↔ _ from ⟨(fun _ => by omega), (fun _ => rfl)⟩)⟩
                | exact ⟨k + 1, false, hk1, by go_num, rfl, (show _ ↔ _ from ⟨(fun h => by cases h), (fun h => by omega)⟩)⟩
                | (first | exact ⟨k + 1, _, hk1, by go_num, rfl, (show _ ↔ _ by rw [decide_eq_true_eq]; omega)⟩ | (simp [intOf]; omega))
            · clear HWAY
              go_wp2_with fail
              refine (HCA.out _).mono ?_
              rintro e w2 ⟨rfl, rfl⟩
              go_wp2_with fail
              refine (HCA.out _).mono ?_
              rintro e w2 ⟨rfl, rfl⟩
              go_wp2_with fail
              all_goals go_round
              all_goals first
                | exact ⟨k + 1, true, hk1, by go_num, rfl, (show _ ↔ _ from ⟨(fun _ => by omega), (fun _ => rfl)⟩)⟩
                | exact ⟨k + 1, false, hk1, by go_num, rfl, (show _ ↔ _ from ⟨(fun h => by cases h), (fun h => by omega)⟩)⟩
                | (first | exact ⟨k + 1, _, hk1, by go_num, rfl, (show _ ↔ _ by rw [decide_eq_true_eq]; omega)⟩ | (simp [intOf]; omega))
            · clear HWAY
              go_wp2_with fail
              refine (HCA.out _).mono ?_
              rintro e w2 ⟨rfl, rfl⟩
              go_wp2_with fail
              refine (HCA.out _).mono ?_
              rintro e w2 ⟨rfl, rfl⟩
              go_wp2_with fail
              all_goals go_round
              all_goals first
                | exact ⟨k + 1, true, hk1, by go_num, rfl, (show _ ↔ _ from ⟨(fun _ => by omega), (fun _ => rfl)⟩)⟩
                | exact ⟨k + 1, false, hk1, by go_num, rfl, (show _ ↔ _ from ⟨(fun h => by cases h), (fun h => by omega)⟩)⟩
                | (first | exact ⟨k + 1, _, hk1, by go_num, rfl, (show _ ↔ _ by rw [decide_eq_true_eq]; omega)⟩ | (simp [intOf]; omega))
            · clear HWAY
              go_wp2_with fail
              refine (HCA.out _).mono ?_
              rintro e w2 ⟨rfl, rfl⟩
              go_wp2_with fail
              refine (HCB.out _).mono ?_
              rintro e w2 ⟨rfl, rfl⟩
              go_wp2_with fail
              refine (HCA.out _).mono ?_
              rintro e w2 ⟨rfl, rfl⟩
              go_wp2_with fail
              all_goals go_round
              all_goals first
                | exact ⟨k + 1, true, hk1, by go_num, rfl, (show _ ↔ _ from ⟨(fun _ => by omega), (fun _ => rfl)⟩)⟩
                | exact ⟨k + 1, false, hk1, by go_num, rfl, (show _ ↔ _ from ⟨(fun h => by cases h), (fun h => by omega)⟩)⟩
                | (first | exact ⟨k + 1, _, hk1, by go_num, rfl, (show _ ↔ _ by rw [decide_eq_true_eq]; omega)⟩ | (simp [intOf]; omega))
            · clear HWAY
              go_wp2_with fail
              refine (HCA.out _).mono ?_
              rintro e w2 ⟨rfl, rfl⟩
              go_wp2_with fail
              refine (HCB.out _).mono ?_
              rintro e w2 ⟨rfl, rfl⟩
              go_wp2_with fail
              refine (HCA.out _).mono ?_
              rintro e w2 ⟨rfl, rfl⟩
              go_wp2_with fail
              all_goals go_round
              all_goals first
                | exact ⟨k + 1, true, hk1, by go_num, rfl, (show _ ↔ _ from ⟨(fun _ => by omega), (fun _ => rfl)⟩)⟩
                | exact ⟨k + 1, false, hk1, by go_num, rfl, (show _ ↔ _ from ⟨(fun h => by cases h), (fun h => by omega)⟩)⟩
                | (first | exact ⟨k + 1, _, hk1, by go_num, rfl, (show _ ↔ _ by rw [decide_eq_true_eq]; omega)⟩ | (simp [intOf]; omega))
            · clear HWAY
              go_wp2_with fail
              refine (HCA.out _).mono ?_
              rintro e w2 ⟨rfl, rfl⟩
              go_wp2_with fail
              refine (HCB.out _).mono ?_
              rintro e w2 ⟨rfl, rfl⟩
              go_wp2_with fail
              refine (HCA.out _).mono ?_
              rintro e w2 ⟨rfl, rfl⟩
              go_wp2_with fail
              all_goals go_round
              all_goals first
                | exact ⟨k + 1, true, hk1, by go_num, rfl, (show _ ↔ _ from ⟨(fun _ => by omega), (fun _ => rfl)⟩)⟩
                | exact ⟨k + 1, false, hk1, by go_num, rfl, (show _ ↔ _ from ⟨(fun h => by cases h), (fun h => by omega)⟩)⟩
                | (first | exact ⟨k + 1, _, hk1, by go_num, rfl, (show _ ↔ _ by rw [decide_eq_true_eq]; omega)⟩ | (simp [intOf]; omega))
            · clear HWAY
              go_wp2_with fail
              refine (HCA.out _).mono ?_
              rintro e w2 ⟨rfl, rfl⟩
              go_wp2_with fail
              refine (HCA.out _).mono ?_
              rintro e w2 ⟨rfl, rfl⟩
              go_wp2_with fail
              all_goals go_round
              all_goals first
                | exact ⟨k + 1, true, hk1, by go_num, rfl, (show _ ↔ _ from ⟨(fun _ => by omega), (fun _ => rfl)⟩)⟩
                | exact ⟨k + 1, false, hk1, by go_num, rfl, (show _ ↔ _ from ⟨(fun h => by cases h), (fun h => by omega)⟩)⟩
                | (first | exact ⟨k + 1, _, hk1, by go_num, rfl, (show _ ↔ _ by rw [decide_eq_true_eq]; omega)⟩ | (simp [intOf]; omega))
            · clear HWAY
              go_wp2_with fail
              refine (HCA.out _).mono ?_
              rintro e w2 ⟨rfl, rfl⟩
              go_wp2_with fail
              refine (HCA.out _).mono ?_
              rintro e w2 ⟨rfl, rfl⟩
              go_wp2_with fail
              all_goals go_round
              all_goals first
                | exact ⟨k + 1, true, hk1, by go_num, rfl, (show _ ↔ _ from ⟨(fun _ => by omega), (fun _ => rfl)⟩)⟩
                | exact ⟨k + 1, false, hk1, by go_num, rfl, (show _ ↔ _ from ⟨(fun h => by cases h), (fun h => by omega)⟩)⟩
                | (first | exact ⟨k + 1, _, hk1, by go_num, rfl, (show _ ↔ _ by rw [decide_eq_true_eq]; omega)⟩ | (simp [intOf]; omega))
            · clear HWAY
              go_wp2_with fail
              refine (HCA.out _).mono ?_
              rintro e w2 ⟨rfl, rfl⟩
              go_wp2_with fail
              refine (HCB.out _).mono ?_
              rintro e w2 ⟨rfl, rfl⟩
              go_wp2_with fail
              refine (HCA.out _).mono ?_
              rintro e w2 ⟨rfl, rfl⟩
              go_wp2_with fail
              all_goals go_round
              all_goals first
                | exact ⟨k + 1, true, hk1, by go_num, rfl, (show _ ↔ _ from ⟨(fun _ => by omega), (fun _ => rfl)⟩)⟩
                | exact ⟨k + 1, false, hk1, by go_num, rfl, (show _ ↔ _ from ⟨(fun h => by cases h), (fun h => by omega)⟩)⟩
                | (first | exact ⟨k + 1, _, hk1, by go_num, rfl, (show _ ↔ _ by rw [decide_eq_true_eq]; omega)⟩ | (simp [intOf]; omega))
            · clear HWAY
              go_wp2_with fail
              refine (HCA.out _).mono ?_
              rintro e w2 ⟨rfl, rfl⟩
              go_wp2_with fail
              refine (HCB.out _).mono ?_
              rintro e w2 ⟨rfl, rfl⟩
              go_wp2_with fail
              refine (HCA.out _).mono ?_
              rintro e w2 ⟨rfl, rfl⟩
              go_wp2_with fail
              all_goals go_round
              all_goals first
                | exact ⟨k + 1, true, hk1, by go_num, rfl, (show _ ↔ _ from ⟨(fun _ => by omega), (fun _ => rfl)⟩)⟩
                | exact ⟨k + 1, false, hk1, by go_num, rfl, (show _ ↔ _ from ⟨(fun h => by cases h), (fun h => by omega)⟩)⟩
                | (first | exact ⟨k + 1, _, hk1, by go_num, rfl, (show _ ↔ _ by rw [decide_eq_true_eq]; omega)⟩ | (simp [intOf]; omega))
        · have hk' : k = N := by omega
          have HKN := Pl.hid hk'
          rcases Bool.eq_false_or_eq_true x with ex | ex
          · subst ex
            clear HK hk'
            go_wp2_with fail
            go_ret
            exact ⟨rfl, H1.out⟩
          · have hx := HK.out
            have h2 := HX.out
            rw [ex] at hx
            simp only [Bool.false_eq_true, false_iff] at hx
            have h3 : F = 0 ∧ T = 0 := by omega
            obtain ⟨rfl, rfl⟩ := h3
            subst ex
            clear HK hk' hx h2
            go_wp2_with fail
            go_ret
            exact ⟨rfl, H1.out⟩
  · obtain ⟨e1, e2, e3⟩ := sp_none a b n h0
    rw [hF] at e1
    rw [hTT] at e2
    rw [hO] at e3
    subst e1 e2 e3
    have H_F := Pl.hid hF
    have H_T := Pl.hid hTT
    have H_V := Pl.hid hV
    have H_O := Pl.hid hO
    clear hF hTT hV hO
    go_enter Tryd.func9, Tryd.ntmps9
    go_wp2_with fail
    refine (wakes01_walk _ HT.out HE.out).mono ?_
    rintro e w1 ⟨rfl, hb⟩
    have H1 := Pl.hid hb
    clear hb
    go_wp2_with fail
    refine (span_known _ HA.out HB.out HN.out H_F.out H_T.out).mono ?_
    rintro e w2 ⟨rfl, rfl⟩
    go_wp2_with fail
    refine (place_known _ HA.out HN.out H_V.out H_O.out).mono ?_
    rintro e w3 ⟨rfl, rfl⟩
    go_wp2_with fail
    go_ret
    exact ⟨rfl, H1.out⟩

set_option maxRecDepth 100000 in
theorem lifted (os : Os) (started : os.Started) (H : Type) (enc : TypeId × Value → H) (F : Stop.Interp) :
    ReturnsInHanded {} Tryd.checked os 9 .any ((OpenSpec.ofChange Rows.digitStretchSpec).preRow enc Tryd.prog Tryd.f9 Rows.digitStretchRow.domain false Rows.digitStretchRow.laid)
      (((OpenSpec.ofChange Rows.digitStretchSpec).at F).post enc Tryd.prog Tryd.f9 false true false false) := by
  refine Fr.lifted (C := Tryd.checked) (s := (OpenSpec.ofChange Rows.digitStretchSpec)) (tb := 4) (by kernel_rfl) started (by kernel_rfl) Tryd.func9
    (Fr.witness_shaped (enc := enc) (C := Tryd.checked) (World.laidAll Tryd.prog os Rows.digitStretchRow.laid) #[.int .i64 0, .int .i64 0, .int .i64 0] (World.laidAll_os _ _ _) (World.shaped_of_ZipB (by kernel_rfl) (by kernel_rfl)) (by kernel_rfl)
      (OpenSpec.preRow_of_cond 8 (x := ([.lit (.int .i64 0), .lit (.int .i64 0), .lit (.int .i64 0)], [], [])) (by kernel_rfl) (by kernel_rfl) (fun k hk => by cases hk) (by kernel_rfl) (laidMet_laidAll _ (by kernel_rfl) (by kernel_rfl))))
    (by kernel_rfl) (by kernel_rfl) rfl rfl Tryd.underlying4 ?_ ?_
  · intro ds hd
    match ds, hd with
    | [d0, d1, d2], _ => rfl
  · intro W base args ds before hval hA hz hk hsz hL hsh
    rw [MakeChecks.laidMetH_plain _ _ _ (by kernel_rfl)] at hL
    have hT := Fr.tab hL
    have hE := Fr.errs hL.tail.tail.tail hL.tail.tail.tail.tail
    rw [Tryd.params9] at hval hA hsz
    obtain ⟨v0, vs0, d0, ds0, p0, q0, hargs, rfl, rfl, h0, r0⟩ := trodAll_cons hA
    obtain ⟨v1, vs1, d1, ds1, p1, q1, rfl, rfl, rfl, h1, r1⟩ := trodAll_cons r0
    obtain ⟨v2, vs2, d2, ds2, p2, q2, rfl, rfl, rfl, h2, r2⟩ := trodAll_cons r1
    obtain ⟨rfl, rfl, rfl⟩ := trodAll_nil r2
    obtain rfl : args = #[v0, v1, v2] := by cases args; simp_all
    obtain ⟨a0, rfl, rfl, rfl, w0⟩ := open_int Tryd.underlying2 (hval 0 2 v0 rfl rfl) h0
    obtain ⟨a1, rfl, rfl, rfl, w1⟩ := open_int Tryd.underlying2 (hval 1 2 v1 rfl rfl) h1
    obtain ⟨a2, rfl, rfl, rfl, w2⟩ := open_int Tryd.underlying3 (hval 2 3 v2 rfl rfl) h2
    exact walk a0 a1 a2 (bounds_i64 w0) (bounds_i64 w1) (bounds_i64 w2) W hT hE

theorem said : Rows.DigitStretchSaid :=
  OpenClaim.holds_of_cond 9 Tryd.f9 rfl rfl rfl rfl rfl rfl rfl ⟨rfl, rfl, rfl, rfl, rfl⟩ rfl rfl rfl rfl rfl (by kernel_rfl) Tryd.func9 (by kernel_rfl)
    (of_decide_eq_true (by kernel_rfl)) (by unfold Func.isWrapper; first | (rw [if_pos (by decide +kernel)]; kernel_rfl) | (rw [if_neg (by decide +kernel)]; exact ⟨rfl, rfl⟩))
    (fun os started H enc _ F => by rw [OpenClaim.pre_eq_preRow]; exact lifted os started H enc F)

theorem plain (f : FuncId) (fn : Func) (hf : Tryd.pinned.checked.prog.funcNamed "pantry/pantrylaw01.DigitStretch" = some f) (hfn : Tryd.pinned.checked.prog.funcs[f]? = some fn) :
    true = Tryd.pinned.checked.prog.looks [] ∧ ∀ (j : Nat) t, fn.params[j]? = some t → Tryd.pinned.checked.prog.wantsStandIn t = false := by
  obtain rfl : f = 9 := Option.some.inj ((show Tryd.prog.funcNamed "pantry/pantrylaw01.DigitStretch" = some 9 by kernel_rfl).symm.trans hf) |>.symm
  obtain rfl : fn = Tryd.f9 := (Option.some.inj (Tryd.func9.symm.trans hfn)).symm
  refine ⟨by kernel_rfl, fun j t ht => ?_⟩
  rw [Tryd.params9] at ht
  have hm := Array.mem_of_getElem? ht
  have hall : ([2, 2, 3].all fun u => !Tryd.prog.wantsStandIn u) = true := by kernel_rfl
  have hm' : t ∈ ([2, 2, 3] : List TypeId) := by simpa using hm
  exact (show Tryd.prog.wantsStandIn t = false by simpa using List.all_eq_true.1 hall t hm')

/-- the statement: the tied card -/
theorem proved : Rows.DigitStretchCardSaid :=
  Claim7.holds_tied_plain_at .later [] _ _ _ _ said (fun _ h => by cases h) (by kernel_rfl) (fun _ h => by cases h) digitStretch_row_tie rfl ⟨rfl, rfl⟩ (by kernel_rfl) rfl plain (by kernel_rfl)
#print axioms proved
end Go.Proofs.YtenacajpgpkdnaaDoor.digitStretch
