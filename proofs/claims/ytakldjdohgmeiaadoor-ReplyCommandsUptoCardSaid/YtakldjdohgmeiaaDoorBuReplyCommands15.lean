/- pantryref16's clean; its right where a reply's own fields may not be, and where they may and it has no list. Conditions stand in each law. pantryref16's right of any reply; its depth. Conditions stand in each law. pantryref16's depth of any reply. Conditions stand in each law. pantryref01's Text. Conditions stand in the law. pantryref16's written of a reply that may be. Conditions stand in each law. Conditions stand in each law. -/
import Derived.Test.YtakldjdohgmeiaaDoorBuReplyCommands11
import Derived.Test.YtakldjdohgmeiaaDoorBuReplyCommands3
import Derived.Test.YtakldjdohgmeiaaDoorBuReplyCommands13
namespace Go.Proofs.YtakldjdohgmeiaaDoor
open Go.RowKit
set_option maxRecDepth 20000

set_option maxHeartbeats 4000000 in
theorem clean_walk (s : ByteArray) (hs : s.size ≤ 1099511627776) (w : World) :
    Calls Tryd.prog 68 #[.string s] w fun e w' => e = .returned (.bool (Pl.noEnd (Pl.L s))) ∧ w' = w := by
  go_enter Tryd.func68, Tryd.ntmps68
  go_wp2_with fail
  go_loop [6] (fun iv => ∃ i : Nat, iv = .int .i64 i ∧ i ≤ s.size ∧ Hid (Pl.noE (Pl.L s) i)) (fun iv => s.size - (intOf iv).toNat)
  case atStart => exact ⟨0, rfl, Nat.zero_le _, fun j hj => absurd hj (Nat.not_lt_zero _)⟩
  case round =>
    obtain ⟨i, rfl, hi, HN⟩ := hrel
    rcases Nat.lt_or_ge i s.size with hlt | hge
    · obtain ⟨x, hx⟩ : ∃ x, s[i]'hlt = x := ⟨_, rfl⟩
      have HLG : Hid ((Pl.L s).getD i 0 = x) := by show _ = _; rw [← hx]; exact (Pl.L_get s i hlt).symm
      by_cases h13 : x = 13
      · subst h13
        have hx' : ((s[i]'hlt).toNat : Int) = 13 := by rw [hx]; rfl
        have HF := Pl.hid (Pl.noE_not (l := Pl.L s) (i := i) (by rw [Pl.L_length]; exact hlt) (by rw [HLG.out]; rfl))
        clear hx
        go_wp2_with fail
        go_ret
        rw [HF.out]
        exact ⟨rfl, rfl⟩
      · have h13' : ((x.toNat : Int) == 13) = false := beq_eq_false_iff_ne.2 (fun e => h13 (UInt8.toNat_inj.1 (by show x.toNat = 13; omega)))
        by_cases h10 : x = 10
        · subst h10
          have hx' : ((s[i]'hlt).toNat : Int) = 10 := by rw [hx]; rfl
          have HF := Pl.hid (Pl.noE_not (l := Pl.L s) (i := i) (by rw [Pl.L_length]; exact hlt) (by rw [HLG.out]; rfl))
          clear hx
          go_wp2_with fail
          go_ret
          rw [HF.out]
          exact ⟨rfl, rfl⟩
        · have h10' : ((x.toNat : Int) == 10) = false := beq_eq_false_iff_ne.2 (fun e => h10 (UInt8.toNat_inj.1 (by show x.toNat = 10; omega)))
          have hE : Hid (Pl.isEnd x = false) := by show _ = _; unfold Pl.isEnd; simp [h13, h10]
          rw [← hx] at h13' h10'
          clear hx h13 h10
          go_wp2_with fail
          refine ⟨⟨i + 1, by go_num, hlt, fun j hj => ?_⟩, by simp [intOf]; omega⟩
          rcases Nat.lt_or_ge j i with h | h
          · exact HN.out j h
          · rw [show j = i by omega, HLG.out]; exact hE.out
    · have HF := Pl.hid (Pl.noE_all HN.out (by rw [Pl.L_length]; exact hge))
      go_wp2_with fail
      go_ret
      rw [HF.out]
      exact ⟨rfl, rfl⟩

set_option maxHeartbeats 4000000 in
theorem right_1_vnv (s : ByteArray) (n : Int) (la : Option Addr) (ln lc : Nat) (w : World) (hn : (n != 0) = true) :
    Calls Tryd.prog 53 #[.agg #[.int .i64 1, .string s, .int .i64 n, .slice la ln lc]] w fun e w' => e = .returned (.bool false) ∧ Below w.heap.size w w' := by
  have hc : ∀ i u, (#[.int .i64 1, .string s, .int .i64 n, .slice la ln lc] : Array Value)[i]? = some u → (w.alloc (.cells #[.int .i64 1, .string s, .int .i64 n, .slice la ln lc] 31)).cell? ⟨w.heap.size, i, none⟩ = some u := fun i u h => by rw [World.cell?_alloc_mark]; exact h
  have e0 := hc 0 _ rfl
  have e1 := hc 1 _ rfl
  have e2 := hc 2 _ rfl
  have e3 := hc 3 _ rfl
  have HB := Pl.hid ((Below.refl w.heap.size w).alloc (Nat.le_refl _) (.cells #[.int .i64 1, .string s, .int .i64 n, .slice la ln lc] 31))
  clear hc
  go_enter Tryd.func53, Tryd.ntmps53
  go_wp2_with fail
  go_ret
  exact ⟨rfl, HB.out⟩
set_option maxHeartbeats 4000000 in
theorem right_1_vzn (s : ByteArray) (n : Int) (la : Option Addr) (ln lc : Nat) (w : World) (hn : n = 0) (hl : 0 < ln) :
    Calls Tryd.prog 53 #[.agg #[.int .i64 1, .string s, .int .i64 n, .slice la ln lc]] w fun e w' => e = .returned (.bool false) ∧ Below w.heap.size w w' := by
  subst hn
  have hc : ∀ i u, (#[.int .i64 1, .string s, .int .i64 0, .slice la ln lc] : Array Value)[i]? = some u → (w.alloc (.cells #[.int .i64 1, .string s, .int .i64 0, .slice la ln lc] 31)).cell? ⟨w.heap.size, i, none⟩ = some u := fun i u h => by rw [World.cell?_alloc_mark]; exact h
  have e0 := hc 0 _ rfl
  have e1 := hc 1 _ rfl
  have e2 := hc 2 _ rfl
  have e3 := hc 3 _ rfl
  have HB := Pl.hid ((Below.refl w.heap.size w).alloc (Nat.le_refl _) (.cells #[.int .i64 1, .string s, .int .i64 0, .slice la ln lc] 31))
  clear hc
  have hl2 : (0 : Int) < (ln : Int) := by omega
  go_enter Tryd.func53, Tryd.ntmps53
  go_wp2_with fail
  go_ret
  exact ⟨rfl, HB.out⟩
set_option maxHeartbeats 4000000 in
theorem right_1_fzz (s : ByteArray) (n : Int) (la : Option Addr) (ln lc : Nat) (w : World) (hz : s.size ≤ 1099511627776) (hs : Pl.noEnd (Pl.L s) = false) (hn : n = 0) (hl : ln = 0) :
    Calls Tryd.prog 53 #[.agg #[.int .i64 1, .string s, .int .i64 n, .slice la ln lc]] w fun e w' => e = .returned (.bool false) ∧ Below w.heap.size w w' := by
  subst hn
  subst hl
  have hc : ∀ i u, (#[.int .i64 1, .string s, .int .i64 0, .slice la 0 lc] : Array Value)[i]? = some u → (w.alloc (.cells #[.int .i64 1, .string s, .int .i64 0, .slice la 0 lc] 31)).cell? ⟨w.heap.size, i, none⟩ = some u := fun i u h => by rw [World.cell?_alloc_mark]; exact h
  have e0 := hc 0 _ rfl
  have e1 := hc 1 _ rfl
  have e2 := hc 2 _ rfl
  have e3 := hc 3 _ rfl
  have HB := Pl.hid ((Below.refl w.heap.size w).alloc (Nat.le_refl _) (.cells #[.int .i64 1, .string s, .int .i64 0, .slice la 0 lc] 31))
  clear hc
  go_enter Tryd.func53, Tryd.ntmps53
  go_wp2_with (go_at_call 68; refine (clean_walk s hz _).mono ?_; rintro e w2 ⟨rfl, rfl⟩; rw [hs])
  go_ret
  exact ⟨rfl, HB.out⟩
set_option maxHeartbeats 4000000 in
theorem right_1_tzz (s : ByteArray) (n : Int) (la : Option Addr) (ln lc : Nat) (w : World) (hz : s.size ≤ 1099511627776) (hs : Pl.noEnd (Pl.L s) = true) (hn : n = 0) (hl : ln = 0) :
    Calls Tryd.prog 53 #[.agg #[.int .i64 1, .string s, .int .i64 n, .slice la ln lc]] w fun e w' => e = .returned (.bool true) ∧ Below w.heap.size w w' := by
  subst hn
  subst hl
  have hc : ∀ i u, (#[.int .i64 1, .string s, .int .i64 0, .slice la 0 lc] : Array Value)[i]? = some u → (w.alloc (.cells #[.int .i64 1, .string s, .int .i64 0, .slice la 0 lc] 31)).cell? ⟨w.heap.size, i, none⟩ = some u := fun i u h => by rw [World.cell?_alloc_mark]; exact h
  have e0 := hc 0 _ rfl
  have e1 := hc 1 _ rfl
  have e2 := hc 2 _ rfl
  have e3 := hc 3 _ rfl
  have HB := Pl.hid ((Below.refl w.heap.size w).alloc (Nat.le_refl _) (.cells #[.int .i64 1, .string s, .int .i64 0, .slice la 0 lc] 31))
  clear hc
  go_enter Tryd.func53, Tryd.ntmps53
  go_wp2_with (go_at_call 68; refine (clean_walk s hz _).mono ?_; rintro e w2 ⟨rfl, rfl⟩; rw [hs])
  go_loop [69] (fun iv => iv = .int .i64 0) (fun _ => 0)
  case atStart => rfl
  case round =>
    subst hrel
    go_wp2_with fail
    go_ret
    exact ⟨rfl, HB.out⟩
set_option maxHeartbeats 4000000 in
theorem right_2_vnv (s : ByteArray) (n : Int) (la : Option Addr) (ln lc : Nat) (w : World) (hn : (n != 0) = true) :
    Calls Tryd.prog 53 #[.agg #[.int .i64 2, .string s, .int .i64 n, .slice la ln lc]] w fun e w' => e = .returned (.bool false) ∧ Below w.heap.size w w' := by
  have hc : ∀ i u, (#[.int .i64 2, .string s, .int .i64 n, .slice la ln lc] : Array Value)[i]? = some u → (w.alloc (.cells #[.int .i64 2, .string s, .int .i64 n, .slice la ln lc] 31)).cell? ⟨w.heap.size, i, none⟩ = some u := fun i u h => by rw [World.cell?_alloc_mark]; exact h
  have e0 := hc 0 _ rfl
  have e1 := hc 1 _ rfl
  have e2 := hc 2 _ rfl
  have e3 := hc 3 _ rfl
  have HB := Pl.hid ((Below.refl w.heap.size w).alloc (Nat.le_refl _) (.cells #[.int .i64 2, .string s, .int .i64 n, .slice la ln lc] 31))
  clear hc
  go_enter Tryd.func53, Tryd.ntmps53
  go_wp2_with fail
  go_ret
  exact ⟨rfl, HB.out⟩
set_option maxHeartbeats 4000000 in
theorem right_2_vzn (s : ByteArray) (n : Int) (la : Option Addr) (ln lc : Nat) (w : World) (hn : n = 0) (hl : 0 < ln) :
    Calls Tryd.prog 53 #[.agg #[.int .i64 2, .string s, .int .i64 n, .slice la ln lc]] w fun e w' => e = .returned (.bool false) ∧ Below w.heap.size w w' := by
  subst hn
  have hc : ∀ i u, (#[.int .i64 2, .string s, .int .i64 0, .slice la ln lc] : Array Value)[i]? = some u → (w.alloc (.cells #[.int .i64 2, .string s, .int .i64 0, .slice la ln lc] 31)).cell? ⟨w.heap.size, i, none⟩ = some u := fun i u h => by rw [World.cell?_alloc_mark]; exact h
  have e0 := hc 0 _ rfl
  have e1 := hc 1 _ rfl
  have e2 := hc 2 _ rfl
  have e3 := hc 3 _ rfl
  have HB := Pl.hid ((Below.refl w.heap.size w).alloc (Nat.le_refl _) (.cells #[.int .i64 2, .string s, .int .i64 0, .slice la ln lc] 31))
  clear hc
  have hl2 : (0 : Int) < (ln : Int) := by omega
  go_enter Tryd.func53, Tryd.ntmps53
  go_wp2_with fail
  go_ret
  exact ⟨rfl, HB.out⟩
set_option maxHeartbeats 4000000 in
theorem right_2_fzz (s : ByteArray) (n : Int) (la : Option Addr) (ln lc : Nat) (w : World) (hz : s.size ≤ 1099511627776) (hs : Pl.noEnd (Pl.L s) = false) (hn : n = 0) (hl : ln = 0) :
    Calls Tryd.prog 53 #[.agg #[.int .i64 2, .string s, .int .i64 n, .slice la ln lc]] w fun e w' => e = .returned (.bool false) ∧ Below w.heap.size w w' := by
  subst hn
  subst hl
  have hc : ∀ i u, (#[.int .i64 2, .string s, .int .i64 0, .slice la 0 lc] : Array Value)[i]? = some u → (w.alloc (.cells #[.int .i64 2, .string s, .int .i64 0, .slice la 0 lc] 31)).cell? ⟨w.heap.size, i, none⟩ = some u := fun i u h => by rw [World.cell?_alloc_mark]; exact h
  have e0 := hc 0 _ rfl
  have e1 := hc 1 _ rfl
  have e2 := hc 2 _ rfl
  have e3 := hc 3 _ rfl
  have HB := Pl.hid ((Below.refl w.heap.size w).alloc (Nat.le_refl _) (.cells #[.int .i64 2, .string s, .int .i64 0, .slice la 0 lc] 31))
  clear hc
  go_enter Tryd.func53, Tryd.ntmps53
  go_wp2_with (go_at_call 68; refine (clean_walk s hz _).mono ?_; rintro e w2 ⟨rfl, rfl⟩; rw [hs])
  go_ret
  exact ⟨rfl, HB.out⟩
set_option maxHeartbeats 4000000 in
theorem right_2_tzz (s : ByteArray) (n : Int) (la : Option Addr) (ln lc : Nat) (w : World) (hz : s.size ≤ 1099511627776) (hs : Pl.noEnd (Pl.L s) = true) (hn : n = 0) (hl : ln = 0) :
    Calls Tryd.prog 53 #[.agg #[.int .i64 2, .string s, .int .i64 n, .slice la ln lc]] w fun e w' => e = .returned (.bool true) ∧ Below w.heap.size w w' := by
  subst hn
  subst hl
  have hc : ∀ i u, (#[.int .i64 2, .string s, .int .i64 0, .slice la 0 lc] : Array Value)[i]? = some u → (w.alloc (.cells #[.int .i64 2, .string s, .int .i64 0, .slice la 0 lc] 31)).cell? ⟨w.heap.size, i, none⟩ = some u := fun i u h => by rw [World.cell?_alloc_mark]; exact h
  have e0 := hc 0 _ rfl
  have e1 := hc 1 _ rfl
  have e2 := hc 2 _ rfl
  have e3 := hc 3 _ rfl
  have HB := Pl.hid ((Below.refl w.heap.size w).alloc (Nat.le_refl _) (.cells #[.int .i64 2, .string s, .int .i64 0, .slice la 0 lc] 31))
  clear hc
  go_enter Tryd.func53, Tryd.ntmps53
  go_wp2_with (go_at_call 68; refine (clean_walk s hz _).mono ?_; rintro e w2 ⟨rfl, rfl⟩; rw [hs])
  go_loop [69] (fun iv => iv = .int .i64 0) (fun _ => 0)
  case atStart => rfl
  case round =>
    subst hrel
    go_wp2_with fail
    go_ret
    exact ⟨rfl, HB.out⟩
set_option maxHeartbeats 4000000 in
theorem right_3_nvv (s : ByteArray) (n : Int) (la : Option Addr) (ln lc : Nat) (w : World) (hs : s.toList.isEmpty = false) :
    Calls Tryd.prog 53 #[.agg #[.int .i64 3, .string s, .int .i64 n, .slice la ln lc]] w fun e w' => e = .returned (.bool false) ∧ Below w.heap.size w w' := by
  have hc : ∀ i u, (#[.int .i64 3, .string s, .int .i64 n, .slice la ln lc] : Array Value)[i]? = some u → (w.alloc (.cells #[.int .i64 3, .string s, .int .i64 n, .slice la ln lc] 31)).cell? ⟨w.heap.size, i, none⟩ = some u := fun i u h => by rw [World.cell?_alloc_mark]; exact h
  have e0 := hc 0 _ rfl
  have e1 := hc 1 _ rfl
  have e2 := hc 2 _ rfl
  have e3 := hc 3 _ rfl
  have HB := Pl.hid ((Below.refl w.heap.size w).alloc (Nat.le_refl _) (.cells #[.int .i64 3, .string s, .int .i64 n, .slice la ln lc] 31))
  clear hc
  go_enter Tryd.func53, Tryd.ntmps53
  go_wp2_with fail
  go_ret
  exact ⟨rfl, HB.out⟩
set_option maxHeartbeats 4000000 in
theorem right_3_evn (s : ByteArray) (n : Int) (la : Option Addr) (ln lc : Nat) (w : World) (hs : s = ⟨#[]⟩) (hl : 0 < ln) :
    Calls Tryd.prog 53 #[.agg #[.int .i64 3, .string s, .int .i64 n, .slice la ln lc]] w fun e w' => e = .returned (.bool false) ∧ Below w.heap.size w w' := by
  subst hs
  have hc : ∀ i u, (#[.int .i64 3, .string ⟨#[]⟩, .int .i64 n, .slice la ln lc] : Array Value)[i]? = some u → (w.alloc (.cells #[.int .i64 3, .string ⟨#[]⟩, .int .i64 n, .slice la ln lc] 31)).cell? ⟨w.heap.size, i, none⟩ = some u := fun i u h => by rw [World.cell?_alloc_mark]; exact h
  have e0 := hc 0 _ rfl
  have e1 := hc 1 _ rfl
  have e2 := hc 2 _ rfl
  have e3 := hc 3 _ rfl
  have HB := Pl.hid ((Below.refl w.heap.size w).alloc (Nat.le_refl _) (.cells #[.int .i64 3, .string ⟨#[]⟩, .int .i64 n, .slice la ln lc] 31))
  clear hc
  have hl2 : (0 : Int) < (ln : Int) := by omega
  go_enter Tryd.func53, Tryd.ntmps53
  go_wp2_with fail
  go_ret
  exact ⟨rfl, HB.out⟩
set_option maxHeartbeats 4000000 in
theorem right_3_evz (s : ByteArray) (n : Int) (la : Option Addr) (ln lc : Nat) (w : World) (hs : s = ⟨#[]⟩) (hl : ln = 0) :
    Calls Tryd.prog 53 #[.agg #[.int .i64 3, .string s, .int .i64 n, .slice la ln lc]] w fun e w' => e = .returned (.bool true) ∧ Below w.heap.size w w' := by
  subst hs
  subst hl
  have hc : ∀ i u, (#[.int .i64 3, .string ⟨#[]⟩, .int .i64 n, .slice la 0 lc] : Array Value)[i]? = some u → (w.alloc (.cells #[.int .i64 3, .string ⟨#[]⟩, .int .i64 n, .slice la 0 lc] 31)).cell? ⟨w.heap.size, i, none⟩ = some u := fun i u h => by rw [World.cell?_alloc_mark]; exact h
  have e0 := hc 0 _ rfl
  have e1 := hc 1 _ rfl
  have e2 := hc 2 _ rfl
  have e3 := hc 3 _ rfl
  have HB := Pl.hid ((Below.refl w.heap.size w).alloc (Nat.le_refl _) (.cells #[.int .i64 3, .string ⟨#[]⟩, .int .i64 n, .slice la 0 lc] 31))
  clear hc
  go_enter Tryd.func53, Tryd.ntmps53
  go_wp2_with fail
  go_loop [69] (fun iv => iv = .int .i64 0) (fun _ => 0)
  case atStart => rfl
  case round =>
    subst hrel
    go_wp2_with fail
    go_ret
    exact ⟨rfl, HB.out⟩
set_option maxHeartbeats 4000000 in
theorem right_4_vnv (s : ByteArray) (n : Int) (la : Option Addr) (ln lc : Nat) (w : World) (hn : (n != 0) = true) :
    Calls Tryd.prog 53 #[.agg #[.int .i64 4, .string s, .int .i64 n, .slice la ln lc]] w fun e w' => e = .returned (.bool false) ∧ Below w.heap.size w w' := by
  have hc : ∀ i u, (#[.int .i64 4, .string s, .int .i64 n, .slice la ln lc] : Array Value)[i]? = some u → (w.alloc (.cells #[.int .i64 4, .string s, .int .i64 n, .slice la ln lc] 31)).cell? ⟨w.heap.size, i, none⟩ = some u := fun i u h => by rw [World.cell?_alloc_mark]; exact h
  have e0 := hc 0 _ rfl
  have e1 := hc 1 _ rfl
  have e2 := hc 2 _ rfl
  have e3 := hc 3 _ rfl
  have HB := Pl.hid ((Below.refl w.heap.size w).alloc (Nat.le_refl _) (.cells #[.int .i64 4, .string s, .int .i64 n, .slice la ln lc] 31))
  clear hc
  go_enter Tryd.func53, Tryd.ntmps53
  go_wp2_with fail
  go_ret
  exact ⟨rfl, HB.out⟩
set_option maxHeartbeats 4000000 in
theorem right_4_vzn (s : ByteArray) (n : Int) (la : Option Addr) (ln lc : Nat) (w : World) (hn : n = 0) (hl : 0 < ln) :
    Calls Tryd.prog 53 #[.agg #[.int .i64 4, .string s, .int .i64 n, .slice la ln lc]] w fun e w' => e = .returned (.bool false) ∧ Below w.heap.size w w' := by
  subst hn
  have hc : ∀ i u, (#[.int .i64 4, .string s, .int .i64 0, .slice la ln lc] : Array Value)[i]? = some u → (w.alloc (.cells #[.int .i64 4, .string s, .int .i64 0, .slice la ln lc] 31)).cell? ⟨w.heap.size, i, none⟩ = some u := fun i u h => by rw [World.cell?_alloc_mark]; exact h
  have e0 := hc 0 _ rfl
  have e1 := hc 1 _ rfl
  have e2 := hc 2 _ rfl
  have e3 := hc 3 _ rfl
  have HB := Pl.hid ((Below.refl w.heap.size w).alloc (Nat.le_refl _) (.cells #[.int .i64 4, .string s, .int .i64 0, .slice la ln lc] 31))
  clear hc
  have hl2 : (0 : Int) < (ln : Int) := by omega
  go_enter Tryd.func53, Tryd.ntmps53
  go_wp2_with fail
  go_ret
  exact ⟨rfl, HB.out⟩
set_option maxHeartbeats 4000000 in
theorem right_4_vzz (s : ByteArray) (n : Int) (la : Option Addr) (ln lc : Nat) (w : World) (hn : n = 0) (hl : ln = 0) :
    Calls Tryd.prog 53 #[.agg #[.int .i64 4, .string s, .int .i64 n, .slice la ln lc]] w fun e w' => e = .returned (.bool true) ∧ Below w.heap.size w w' := by
  subst hn
  subst hl
  have hc : ∀ i u, (#[.int .i64 4, .string s, .int .i64 0, .slice la 0 lc] : Array Value)[i]? = some u → (w.alloc (.cells #[.int .i64 4, .string s, .int .i64 0, .slice la 0 lc] 31)).cell? ⟨w.heap.size, i, none⟩ = some u := fun i u h => by rw [World.cell?_alloc_mark]; exact h
  have e0 := hc 0 _ rfl
  have e1 := hc 1 _ rfl
  have e2 := hc 2 _ rfl
  have e3 := hc 3 _ rfl
  have HB := Pl.hid ((Below.refl w.heap.size w).alloc (Nat.le_refl _) (.cells #[.int .i64 4, .string s, .int .i64 0, .slice la 0 lc] 31))
  clear hc
  go_enter Tryd.func53, Tryd.ntmps53
  go_wp2_with fail
  go_loop [69] (fun iv => iv = .int .i64 0) (fun _ => 0)
  case atStart => rfl
  case round =>
    subst hrel
    go_wp2_with fail
    go_ret
    exact ⟨rfl, HB.out⟩
set_option maxHeartbeats 4000000 in
theorem right_5_nvv (s : ByteArray) (n : Int) (la : Option Addr) (ln lc : Nat) (w : World) (hs : s.toList.isEmpty = false) :
    Calls Tryd.prog 53 #[.agg #[.int .i64 5, .string s, .int .i64 n, .slice la ln lc]] w fun e w' => e = .returned (.bool false) ∧ Below w.heap.size w w' := by
  have hc : ∀ i u, (#[.int .i64 5, .string s, .int .i64 n, .slice la ln lc] : Array Value)[i]? = some u → (w.alloc (.cells #[.int .i64 5, .string s, .int .i64 n, .slice la ln lc] 31)).cell? ⟨w.heap.size, i, none⟩ = some u := fun i u h => by rw [World.cell?_alloc_mark]; exact h
  have e0 := hc 0 _ rfl
  have e1 := hc 1 _ rfl
  have e2 := hc 2 _ rfl
  have e3 := hc 3 _ rfl
  have HB := Pl.hid ((Below.refl w.heap.size w).alloc (Nat.le_refl _) (.cells #[.int .i64 5, .string s, .int .i64 n, .slice la ln lc] 31))
  clear hc
  go_enter Tryd.func53, Tryd.ntmps53
  go_wp2_with fail
  go_ret
  exact ⟨rfl, HB.out⟩
set_option maxHeartbeats 4000000 in
theorem right_5_env (s : ByteArray) (n : Int) (la : Option Addr) (ln lc : Nat) (w : World) (hs : s = ⟨#[]⟩) (hn : (n != 0) = true) :
    Calls Tryd.prog 53 #[.agg #[.int .i64 5, .string s, .int .i64 n, .slice la ln lc]] w fun e w' => e = .returned (.bool false) ∧ Below w.heap.size w w' := by
  subst hs
  have hc : ∀ i u, (#[.int .i64 5, .string ⟨#[]⟩, .int .i64 n, .slice la ln lc] : Array Value)[i]? = some u → (w.alloc (.cells #[.int .i64 5, .string ⟨#[]⟩, .int .i64 n, .slice la ln lc] 31)).cell? ⟨w.heap.size, i, none⟩ = some u := fun i u h => by rw [World.cell?_alloc_mark]; exact h
  have e0 := hc 0 _ rfl
  have e1 := hc 1 _ rfl
  have e2 := hc 2 _ rfl
  have e3 := hc 3 _ rfl
  have HB := Pl.hid ((Below.refl w.heap.size w).alloc (Nat.le_refl _) (.cells #[.int .i64 5, .string ⟨#[]⟩, .int .i64 n, .slice la ln lc] 31))
  clear hc
  go_enter Tryd.func53, Tryd.ntmps53
  go_wp2_with fail
  go_ret
  exact ⟨rfl, HB.out⟩
set_option maxHeartbeats 4000000 in
theorem right_5_ezn (s : ByteArray) (n : Int) (la : Option Addr) (ln lc : Nat) (w : World) (hs : s = ⟨#[]⟩) (hn : n = 0) (hl : 0 < ln) :
    Calls Tryd.prog 53 #[.agg #[.int .i64 5, .string s, .int .i64 n, .slice la ln lc]] w fun e w' => e = .returned (.bool false) ∧ Below w.heap.size w w' := by
  subst hs
  subst hn
  have hc : ∀ i u, (#[.int .i64 5, .string ⟨#[]⟩, .int .i64 0, .slice la ln lc] : Array Value)[i]? = some u → (w.alloc (.cells #[.int .i64 5, .string ⟨#[]⟩, .int .i64 0, .slice la ln lc] 31)).cell? ⟨w.heap.size, i, none⟩ = some u := fun i u h => by rw [World.cell?_alloc_mark]; exact h
  have e0 := hc 0 _ rfl
  have e1 := hc 1 _ rfl
  have e2 := hc 2 _ rfl
  have e3 := hc 3 _ rfl
  have HB := Pl.hid ((Below.refl w.heap.size w).alloc (Nat.le_refl _) (.cells #[.int .i64 5, .string ⟨#[]⟩, .int .i64 0, .slice la ln lc] 31))
  clear hc
  have hl2 : (0 : Int) < (ln : Int) := by omega
  go_enter Tryd.func53, Tryd.ntmps53
  go_wp2_with fail
  go_ret
  exact ⟨rfl, HB.out⟩
set_option maxHeartbeats 4000000 in
theorem right_5_ezz (s : ByteArray) (n : Int) (la : Option Addr) (ln lc : Nat) (w : World) (hs : s = ⟨#[]⟩) (hn : n = 0) (hl : ln = 0) :
    Calls Tryd.prog 53 #[.agg #[.int .i64 5, .string s, .int .i64 n, .slice la ln lc]] w fun e w' => e = .returned (.bool true) ∧ Below w.heap.size w w' := by
  subst hs
  subst hn
  subst hl
  have hc : ∀ i u, (#[.int .i64 5, .string ⟨#[]⟩, .int .i64 0, .slice la 0 lc] : Array Value)[i]? = some u → (w.alloc (.cells #[.int .i64 5, .string ⟨#[]⟩, .int .i64 0, .slice la 0 lc] 31)).cell? ⟨w.heap.size, i, none⟩ = some u := fun i u h => by rw [World.cell?_alloc_mark]; exact h
  have e0 := hc 0 _ rfl
  have e1 := hc 1 _ rfl
  have e2 := hc 2 _ rfl
  have e3 := hc 3 _ rfl
  have HB := Pl.hid ((Below.refl w.heap.size w).alloc (Nat.le_refl _) (.cells #[.int .i64 5, .string ⟨#[]⟩, .int .i64 0, .slice la 0 lc] 31))
  clear hc
  go_enter Tryd.func53, Tryd.ntmps53
  go_wp2_with fail
  go_loop [69] (fun iv => iv = .int .i64 0) (fun _ => 0)
  case atStart => rfl
  case round =>
    subst hrel
    go_wp2_with fail
    go_ret
    exact ⟨rfl, HB.out⟩
set_option maxHeartbeats 4000000 in
theorem right_7_nvv (s : ByteArray) (n : Int) (la : Option Addr) (ln lc : Nat) (w : World) (hs : s.toList.isEmpty = false) :
    Calls Tryd.prog 53 #[.agg #[.int .i64 7, .string s, .int .i64 n, .slice la ln lc]] w fun e w' => e = .returned (.bool false) ∧ Below w.heap.size w w' := by
  have hc : ∀ i u, (#[.int .i64 7, .string s, .int .i64 n, .slice la ln lc] : Array Value)[i]? = some u → (w.alloc (.cells #[.int .i64 7, .string s, .int .i64 n, .slice la ln lc] 31)).cell? ⟨w.heap.size, i, none⟩ = some u := fun i u h => by rw [World.cell?_alloc_mark]; exact h
  have e0 := hc 0 _ rfl
  have e1 := hc 1 _ rfl
  have e2 := hc 2 _ rfl
  have e3 := hc 3 _ rfl
  have HB := Pl.hid ((Below.refl w.heap.size w).alloc (Nat.le_refl _) (.cells #[.int .i64 7, .string s, .int .i64 n, .slice la ln lc] 31))
  clear hc
  go_enter Tryd.func53, Tryd.ntmps53
  go_wp2_with fail
  go_ret
  exact ⟨rfl, HB.out⟩
set_option maxHeartbeats 4000000 in
theorem right_7_env (s : ByteArray) (n : Int) (la : Option Addr) (ln lc : Nat) (w : World) (hs : s = ⟨#[]⟩) (hn : (n != 0) = true) :
    Calls Tryd.prog 53 #[.agg #[.int .i64 7, .string s, .int .i64 n, .slice la ln lc]] w fun e w' => e = .returned (.bool false) ∧ Below w.heap.size w w' := by
  subst hs
  have hc : ∀ i u, (#[.int .i64 7, .string ⟨#[]⟩, .int .i64 n, .slice la ln lc] : Array Value)[i]? = some u → (w.alloc (.cells #[.int .i64 7, .string ⟨#[]⟩, .int .i64 n, .slice la ln lc] 31)).cell? ⟨w.heap.size, i, none⟩ = some u := fun i u h => by rw [World.cell?_alloc_mark]; exact h
  have e0 := hc 0 _ rfl
  have e1 := hc 1 _ rfl
  have e2 := hc 2 _ rfl
  have e3 := hc 3 _ rfl
  have HB := Pl.hid ((Below.refl w.heap.size w).alloc (Nat.le_refl _) (.cells #[.int .i64 7, .string ⟨#[]⟩, .int .i64 n, .slice la ln lc] 31))
  clear hc
  go_enter Tryd.func53, Tryd.ntmps53
  go_wp2_with fail
  go_ret
  exact ⟨rfl, HB.out⟩
set_option maxHeartbeats 4000000 in
theorem right_7_ezn (s : ByteArray) (n : Int) (la : Option Addr) (ln lc : Nat) (w : World) (hs : s = ⟨#[]⟩) (hn : n = 0) (hl : 0 < ln) :
    Calls Tryd.prog 53 #[.agg #[.int .i64 7, .string s, .int .i64 n, .slice la ln lc]] w fun e w' => e = .returned (.bool false) ∧ Below w.heap.size w w' := by
  subst hs
  subst hn
  have hc : ∀ i u, (#[.int .i64 7, .string ⟨#[]⟩, .int .i64 0, .slice la ln lc] : Array Value)[i]? = some u → (w.alloc (.cells #[.int .i64 7, .string ⟨#[]⟩, .int .i64 0, .slice la ln lc] 31)).cell? ⟨w.heap.size, i, none⟩ = some u := fun i u h => by rw [World.cell?_alloc_mark]; exact h
  have e0 := hc 0 _ rfl
  have e1 := hc 1 _ rfl
  have e2 := hc 2 _ rfl
  have e3 := hc 3 _ rfl
  have HB := Pl.hid ((Below.refl w.heap.size w).alloc (Nat.le_refl _) (.cells #[.int .i64 7, .string ⟨#[]⟩, .int .i64 0, .slice la ln lc] 31))
  clear hc
  have hl2 : (0 : Int) < (ln : Int) := by omega
  go_enter Tryd.func53, Tryd.ntmps53
  go_wp2_with fail
  go_ret
  exact ⟨rfl, HB.out⟩
set_option maxHeartbeats 4000000 in
theorem right_7_ezz (s : ByteArray) (n : Int) (la : Option Addr) (ln lc : Nat) (w : World) (hs : s = ⟨#[]⟩) (hn : n = 0) (hl : ln = 0) :
    Calls Tryd.prog 53 #[.agg #[.int .i64 7, .string s, .int .i64 n, .slice la ln lc]] w fun e w' => e = .returned (.bool true) ∧ Below w.heap.size w w' := by
  subst hs
  subst hn
  subst hl
  have hc : ∀ i u, (#[.int .i64 7, .string ⟨#[]⟩, .int .i64 0, .slice la 0 lc] : Array Value)[i]? = some u → (w.alloc (.cells #[.int .i64 7, .string ⟨#[]⟩, .int .i64 0, .slice la 0 lc] 31)).cell? ⟨w.heap.size, i, none⟩ = some u := fun i u h => by rw [World.cell?_alloc_mark]; exact h
  have e0 := hc 0 _ rfl
  have e1 := hc 1 _ rfl
  have e2 := hc 2 _ rfl
  have e3 := hc 3 _ rfl
  have HB := Pl.hid ((Below.refl w.heap.size w).alloc (Nat.le_refl _) (.cells #[.int .i64 7, .string ⟨#[]⟩, .int .i64 0, .slice la 0 lc] 31))
  clear hc
  go_enter Tryd.func53, Tryd.ntmps53
  go_wp2_with fail
  go_loop [69] (fun iv => iv = .int .i64 0) (fun _ => 0)
  case atStart => rfl
  case round =>
    subst hrel
    go_wp2_with fail
    go_ret
    exact ⟨rfl, HB.out⟩
set_option maxHeartbeats 4000000 in
theorem right_6_nvv (s : ByteArray) (n : Int) (la : Option Addr) (ln lc : Nat) (w : World) (hs : s.toList.isEmpty = false) :
    Calls Tryd.prog 53 #[.agg #[.int .i64 6, .string s, .int .i64 n, .slice la ln lc]] w fun e w' => e = .returned (.bool false) ∧ Below w.heap.size w w' := by
  have hc : ∀ i u, (#[.int .i64 6, .string s, .int .i64 n, .slice la ln lc] : Array Value)[i]? = some u → (w.alloc (.cells #[.int .i64 6, .string s, .int .i64 n, .slice la ln lc] 31)).cell? ⟨w.heap.size, i, none⟩ = some u := fun i u h => by rw [World.cell?_alloc_mark]; exact h
  have e0 := hc 0 _ rfl
  have e1 := hc 1 _ rfl
  have e2 := hc 2 _ rfl
  have e3 := hc 3 _ rfl
  have HB := Pl.hid ((Below.refl w.heap.size w).alloc (Nat.le_refl _) (.cells #[.int .i64 6, .string s, .int .i64 n, .slice la ln lc] 31))
  clear hc
  go_enter Tryd.func53, Tryd.ntmps53
  go_wp2_with fail
  go_ret
  exact ⟨rfl, HB.out⟩
set_option maxHeartbeats 4000000 in
theorem right_6_env (s : ByteArray) (n : Int) (la : Option Addr) (ln lc : Nat) (w : World) (hs : s = ⟨#[]⟩) (hn : (n != 0) = true) :
    Calls Tryd.prog 53 #[.agg #[.int .i64 6, .string s, .int .i64 n, .slice la ln lc]] w fun e w' => e = .returned (.bool false) ∧ Below w.heap.size w w' := by
  subst hs
  have hc : ∀ i u, (#[.int .i64 6, .string ⟨#[]⟩, .int .i64 n, .slice la ln lc] : Array Value)[i]? = some u → (w.alloc (.cells #[.int .i64 6, .string ⟨#[]⟩, .int .i64 n, .slice la ln lc] 31)).cell? ⟨w.heap.size, i, none⟩ = some u := fun i u h => by rw [World.cell?_alloc_mark]; exact h
  have e0 := hc 0 _ rfl
  have e1 := hc 1 _ rfl
  have e2 := hc 2 _ rfl
  have e3 := hc 3 _ rfl
  have HB := Pl.hid ((Below.refl w.heap.size w).alloc (Nat.le_refl _) (.cells #[.int .i64 6, .string ⟨#[]⟩, .int .i64 n, .slice la ln lc] 31))
  clear hc
  go_enter Tryd.func53, Tryd.ntmps53
  go_wp2_with fail
  go_ret
  exact ⟨rfl, HB.out⟩
set_option maxHeartbeats 4000000 in
theorem right_lo (k : Int) (hk : k < 1) (s : ByteArray) (n : Int) (la : Option Addr) (ln lc : Nat) (w : World) :
    Calls Tryd.prog 53 #[.agg #[.int .i64 k, .string s, .int .i64 n, .slice la ln lc]] w fun e w' => e = .returned (.bool false) ∧ Below w.heap.size w w' := by
  have a1 : (k == 1) = false := beq_eq_false_iff_ne.2 (by omega)
  have a2 : (k == 2) = false := beq_eq_false_iff_ne.2 (by omega)
  have a4 : (k == 4) = false := beq_eq_false_iff_ne.2 (by omega)
  have hc : ∀ i u, (#[.int .i64 k, .string s, .int .i64 n, .slice la ln lc] : Array Value)[i]? = some u → (w.alloc (.cells #[.int .i64 k, .string s, .int .i64 n, .slice la ln lc] 31)).cell? ⟨w.heap.size, i, none⟩ = some u := fun i u h => by rw [World.cell?_alloc_mark]; exact h
  have e0 := hc 0 _ rfl
  have e1 := hc 1 _ rfl
  have e2 := hc 2 _ rfl
  have e3 := hc 3 _ rfl
  have HB := Pl.hid ((Below.refl w.heap.size w).alloc (Nat.le_refl _) (.cells #[.int .i64 k, .string s, .int .i64 n, .slice la ln lc] 31))
  clear hc
  go_enter Tryd.func53, Tryd.ntmps53
  go_wp2_with fail
  go_ret
  exact ⟨rfl, HB.out⟩
set_option maxHeartbeats 4000000 in
theorem right_hi (k : Int) (hk : 7 < k) (s : ByteArray) (n : Int) (la : Option Addr) (ln lc : Nat) (w : World) :
    Calls Tryd.prog 53 #[.agg #[.int .i64 k, .string s, .int .i64 n, .slice la ln lc]] w fun e w' => e = .returned (.bool false) ∧ Below w.heap.size w w' := by
  have a1 : (k == 1) = false := beq_eq_false_iff_ne.2 (by omega)
  have a2 : (k == 2) = false := beq_eq_false_iff_ne.2 (by omega)
  have a4 : (k == 4) = false := beq_eq_false_iff_ne.2 (by omega)
  have a5 : decide (k < 1) = false := decide_eq_false (by omega)
  have hc : ∀ i u, (#[.int .i64 k, .string s, .int .i64 n, .slice la ln lc] : Array Value)[i]? = some u → (w.alloc (.cells #[.int .i64 k, .string s, .int .i64 n, .slice la ln lc] 31)).cell? ⟨w.heap.size, i, none⟩ = some u := fun i u h => by rw [World.cell?_alloc_mark]; exact h
  have e0 := hc 0 _ rfl
  have e1 := hc 1 _ rfl
  have e2 := hc 2 _ rfl
  have e3 := hc 3 _ rfl
  have HB := Pl.hid ((Below.refl w.heap.size w).alloc (Nat.le_refl _) (.cells #[.int .i64 k, .string s, .int .i64 n, .slice la ln lc] 31))
  clear hc
  go_enter Tryd.func53, Tryd.ntmps53
  go_wp2_with fail
  go_ret
  exact ⟨rfl, HB.out⟩
end Go.Proofs.YtakldjdohgmeiaaDoor

namespace Go.Proofs.YtakldjdohgmeiaaDoor
open Go.RowKit
set_option maxRecDepth 20000

/-- what right tells of the fields -/
theorem right_heads (k : Int) (s : ByteArray) (n : Int) (la : Option Addr) (ln lc : Nat) (hz : s.size ≤ 1099511627776) (w : World) (h6 : ¬ (k = 6 ∧ s.size = 0 ∧ n = 0)) :
    Calls Tryd.prog 53 #[.agg #[.int .i64 k, .string s, .int .i64 n, .slice la ln lc]] w fun e w' => e = .returned (.bool (RT.okHead k s n ln)) ∧ (RT.okHead k s n ln = true → ln = 0) ∧ Below w.heap.size w w' := by
  by_cases hlo : k < 1
  · rw [RT.okHead_false k s n ln (.inl hlo)]
    exact (right_lo k hlo s n la ln lc w).mono fun e w' h => ⟨h.1, fun h => (Bool.false_ne_true h).elim, h.2⟩
  by_cases hhi : 7 < k
  · rw [RT.okHead_false k s n ln (.inr hhi)]
    exact (right_hi k hhi s n la ln lc w).mono fun e w' h => ⟨h.1, fun h => (Bool.false_ne_true h).elim, h.2⟩
  have bad : ∀ {e : Ending} {w' : World} {b : Bool}, b = false → e = .returned (.bool false) ∧ Below w.heap.size w w' → e = .returned (.bool b) ∧ (b = true → ln = 0) ∧ Below w.heap.size w w' := fun hb h => by
    subst hb
    exact ⟨h.1, fun h => (Bool.false_ne_true h).elim, h.2⟩
  have good : ∀ {e : Ending} {w' : World} {b : Bool}, b = true → ln = 0 → e = .returned (.bool true) ∧ Below w.heap.size w w' → e = .returned (.bool b) ∧ (b = true → ln = 0) ∧ Below w.heap.size w w' := fun hb hl h => by
    subst hb
    exact ⟨h.1, fun _ => hl, h.2⟩
  have nf : ∀ {m : Int}, m ≠ 0 → (m != 0) = true := fun h => bne_iff_ne.2 h
  have lf : ln ≠ 0 → 0 < ln := fun h => by omega
  have lf' : ln ≠ 0 → (ln == 0) = false := fun h => beq_eq_false_iff_ne.2 h
  have sf : s.size ≠ 0 → (s.size == 0) = false := fun h => beq_eq_false_iff_ne.2 h
  rcases (show k = 1 ∨ k = 2 ∨ k = 3 ∨ k = 4 ∨ k = 5 ∨ k = 6 ∨ k = 7 by omega) with rfl | rfl | rfl | rfl | rfl | rfl | rfl
  · by_cases hn : n = 0
    · by_cases hl : ln = 0
      · cases hs : Pl.noEnd (Pl.L s)
        · exact (right_1_fzz s n la ln lc w hz hs hn hl).mono fun e w' => bad (by unfold RT.okHead; simp [hs])
        · exact (right_1_tzz s n la ln lc w hz hs hn hl).mono fun e w' => good (by unfold RT.okHead; simp [hs, hn, hl]) hl
      · exact (right_1_vzn s n la ln lc w hn (lf hl)).mono fun e w' => bad (by unfold RT.okHead; simp [hl])
    · exact (right_1_vnv s n la ln lc w (nf hn)).mono fun e w' => bad (by unfold RT.okHead; simp [hn])
  · by_cases hn : n = 0
    · by_cases hl : ln = 0
      · cases hs : Pl.noEnd (Pl.L s)
        · exact (right_2_fzz s n la ln lc w hz hs hn hl).mono fun e w' => bad (by unfold RT.okHead; simp [hs])
        · exact (right_2_tzz s n la ln lc w hz hs hn hl).mono fun e w' => good (by unfold RT.okHead; simp [hs, hn, hl]) hl
      · exact (right_2_vzn s n la ln lc w hn (lf hl)).mono fun e w' => bad (by unfold RT.okHead; simp [hl])
    · exact (right_2_vnv s n la ln lc w (nf hn)).mono fun e w' => bad (by unfold RT.okHead; simp [hn])
  · by_cases hs : s.size = 0
    · by_cases hl : ln = 0
      · exact (right_3_evz s n la ln lc w (Pl.isE_true hs) hl).mono fun e w' => good (by unfold RT.okHead; simp [hs, hl]) hl
      · exact (right_3_evn s n la ln lc w (Pl.isE_true hs) (lf hl)).mono fun e w' => bad (by unfold RT.okHead; simp [hl])
    · exact (right_3_nvv s n la ln lc w (Pl.isE_false hs)).mono fun e w' => bad (by unfold RT.okHead; simp [hs])
  · by_cases hn : n = 0
    · by_cases hl : ln = 0
      · exact (right_4_vzz s n la ln lc w hn hl).mono fun e w' => good (by unfold RT.okHead; simp [hn, hl]) hl
      · exact (right_4_vzn s n la ln lc w hn (lf hl)).mono fun e w' => bad (by unfold RT.okHead; simp [hl])
    · exact (right_4_vnv s n la ln lc w (nf hn)).mono fun e w' => bad (by unfold RT.okHead; simp [hn])
  · by_cases hs : s.size = 0
    · by_cases hn : n = 0
      · by_cases hl : ln = 0
        · exact (right_5_ezz s n la ln lc w (Pl.isE_true hs) hn hl).mono fun e w' => good (by unfold RT.okHead; simp [hs, hn, hl]) hl
        · exact (right_5_ezn s n la ln lc w (Pl.isE_true hs) hn (lf hl)).mono fun e w' => bad (by unfold RT.okHead; simp [hl])
      · exact (right_5_env s n la ln lc w (Pl.isE_true hs) (nf hn)).mono fun e w' => bad (by unfold RT.okHead; simp [hn])
    · exact (right_5_nvv s n la ln lc w (Pl.isE_false hs)).mono fun e w' => bad (by unfold RT.okHead; simp [hs])
  · by_cases hs : s.size = 0
    · by_cases hn : n = 0
      · exact absurd ⟨rfl, hs, hn⟩ h6
      · exact (right_6_env s n la ln lc w (Pl.isE_true hs) (nf hn)).mono fun e w' => bad (by unfold RT.okHead; simp [hn])
    · exact (right_6_nvv s n la ln lc w (Pl.isE_false hs)).mono fun e w' => bad (by unfold RT.okHead; simp [hs])
  · by_cases hs : s.size = 0
    · by_cases hn : n = 0
      · by_cases hl : ln = 0
        · exact (right_7_ezz s n la ln lc w (Pl.isE_true hs) hn hl).mono fun e w' => good (by unfold RT.okHead; simp [hs, hn, hl]) hl
        · exact (right_7_ezn s n la ln lc w (Pl.isE_true hs) hn (lf hl)).mono fun e w' => bad (by unfold RT.okHead; simp [hl])
      · exact (right_7_env s n la ln lc w (Pl.isE_true hs) (nf hn)).mono fun e w' => bad (by unfold RT.okHead; simp [hn])
    · exact (right_7_nvv s n la ln lc w (Pl.isE_false hs)).mono fun e w' => bad (by unfold RT.okHead; simp [hs])

set_option maxHeartbeats 8000000 in
theorem right_walk (W : World) : ∀ (t : RT), t.sz ≤ 1073741824 → ∀ (c0 c1 c2 c3 : Value), Mm.RepX W t [c0, c1, c2, c3] → ∀ (w : World), Below W.heap.size W w →
    Calls Tryd.prog 53 #[.agg #[c0, c1, c2, c3]] w fun e w' => e = .returned (.bool t.ok) ∧ Below w.heap.size w w' := by
  intro t
  induction t using RT.ind with
  | h k s nn ts ih =>
  intro hsz c0 c1 c2 c3 hX w hW
  obtain ⟨la, lc, hcs, hel⟩ := hX.open
  simp only [List.cons.injEq, and_true] at hcs
  obtain ⟨rfl, rfl, rfl, rfl⟩ := hcs
  rw [RT.sz_mk] at hsz
  by_cases h6 : ¬ (k = 6 ∧ s.size = 0 ∧ nn = 0)
  · refine (right_heads k s nn la ts.length lc (by omega) w h6).mono ?_
    rintro e w' ⟨rfl, hl, hb⟩
    refine ⟨?_, hb⟩
    cases ho : RT.okHead k s nn ts.length
    · rw [RT.ok_mk, ho]; rfl
    · have h0 := hl ho
      have hts : ts = [] := List.eq_nil_of_length_eq_zero h0
      rw [RT.ok_mk, ho, hts]; simp [RT.okL]
  obtain ⟨rfl, hs0, rfl⟩ := Classical.not_not.1 h6
  obtain rfl := Pl.isE_true hs0
  obtain ⟨n, hnn⟩ : ∃ n, n = ts.length := ⟨_, rfl⟩
  have hn' : n ≤ 1099511627776 := by have := RT.szL_len ts; omega
  obtain ⟨p, hp⟩ : ∃ p, p = w.heap.size := ⟨_, rfl⟩
  obtain ⟨w0, hw0⟩ : ∃ w0, w0 = w.alloc (.cells #[.int .i64 6, .string ⟨#[]⟩, .int .i64 0, .slice la ts.length lc] 31) := ⟨_, rfl⟩
  have HP0 : Hid (w0.heap[p]? = some (.cells #[.int .i64 6, .string ⟨#[]⟩, .int .i64 0, .slice la ts.length lc] 31 (0, 0))) := by
    show _ = _
    rw [hw0, hp]
    exact heap_alloc_new w _
  have HB0 : Hid (Below w.heap.size w w0) := by rw [hw0]; exact (Below.refl _ _).alloc (Nat.le_refl _) _
  have HS0 : Hid (w0.heap.size = w.heap.size + 1) := by show _ = _; rw [hw0]; simp
  have HK : Hid (∀ V, Below w0.heap.size w0 V → V.cell? ⟨p, 0, none⟩ = some (.int .i64 6) ∧ V.cell? ⟨p, 1, none⟩ = some (.string ⟨#[]⟩) ∧ V.cell? ⟨p, 2, none⟩ = some (.int .i64 0) ∧ V.cell? ⟨p, 3, none⟩ = some (.slice la ts.length lc)) := fun V hV => by
    have h := (hV.block p (by rw [HS0.out, hp]; omega)).trans HP0.out
    exact ⟨Mm.cellOf h rfl, Mm.cellOf h rfl, Mm.cellOf h rfl, Mm.cellOf h rfl⟩
  have HW0eq := Pl.hid hw0
  have HPeq := Pl.hid hp
  obtain ⟨k0, k1, k2, k3⟩ := HK.out w0 (Below.refl _ _)
  have HNN := Pl.hid hnn
  have HW := Pl.hid hW
  have IH := Pl.hid ih
  have HSZ : Hid (∀ t ∈ ts, t.sz ≤ 1073741824) := fun t ht => by have := RT.szL_mem ht; omega
  have HSZL : Hid (RT.szL ts ≤ 1073741824) := by show _ ≤ _; omega
  have HEL := Pl.hid hel
  have HOKT : Hid (RT.okL ts = true → (RT.mk 6 ⟨#[]⟩ 0 ts).ok = true) := fun h => by rw [RT.ok_mk, h]; rfl
  have HOKF : Hid (RT.okL ts = false → (RT.mk 6 ⟨#[]⟩ 0 ts).ok = false) := fun h => by rw [RT.ok_mk, h]; simp
  rw [← hnn] at HK HW0eq k3 ⊢
  rw [hw0, hp] at k0 k1 k2 k3
  rw [← hnn] at k0 k1 k2 k3
  clear hel hsz hX ih hw0 hp hW hnn hs0 h6
  go_enter Tryd.func53, Tryd.ntmps53
  go_wp2_with fail
  rw [← HW0eq.out]
  clear k0 k1 k2 k3
  go_loopw [69] (fun iv wr => ∃ (i : Nat), iv = .int .i64 i ∧ i ≤ n ∧ Hid (RT.okL (ts.take i) = true) ∧ Hid (Below w0.heap.size w0 wr)) (fun iv _ => n - (intOf iv).toNat)
  case atStart => exact ⟨0, rfl, Nat.zero_le _, by show _ = _; rw [List.take_zero]; simp [RT.okL], Below.refl _ _⟩
  case round =>
    obtain ⟨i, rfl, hi, HOK, HB⟩ := hrel
    rcases Nat.lt_or_ge i n with hlt | hge
    · rcases HEL.out with h0 | ⟨blk, rfl, hbl, hel⟩
      · have := HNN.out; omega
      have hlt' : i < ts.length := by rw [← HNN.out]; exact hlt
      obtain ⟨f0, f1, f2, f3, g0, g1, g2, g3, hrep⟩ := hel i hlt'
      have HWr : Hid (Below W.heap.size W wr) := HW.out.trans ((HB0.out.trans (HB.out.mono HB0.out.size)).mono HW.out.size)
      have e0 := (HWr.out.cell (p := ⟨blk, i * 4, none⟩) hbl).trans g0
      have e1 := (HWr.out.cell (p := ⟨blk, i * 4 + 1, none⟩) hbl).trans g1
      have e2 := (HWr.out.cell (p := ⟨blk, i * 4 + 2, none⟩) hbl).trans g2
      have e3 := (HWr.out.cell (p := ⟨blk, i * 4 + 3, none⟩) hbl).trans g3
      have HREP := Pl.hid hrep
      clear g0 g1 g2 g3 hrep hel
      have HSZW : Hid (w0.heap.size ≤ wr.heap.size) := HB.out.size
      go_wp2_with (refine Mm.wp_store4 _ rfl _ _ rfl wr.heap.size _ _ _ _ _ _ (heap_alloc_new wr _) rfl rfl rfl HREP.out.one ?_; intro w4 hw4 hs4 hg4; have HW4 := Pl.hid hw4; have HG4 := Pl.hid hg4; have HS4 := Pl.hid hs4; clear hw4 hs4 hg4; have q0 := Mm.cellOf (i := 0) (v := f0) HW4.out rfl; have q1 := Mm.cellOf (i := 1) (v := f1) HW4.out rfl; have q2 := Mm.cellOf (i := 2) (v := f2) HW4.out rfl; have q3 := Mm.cellOf (i := 3) (v := f3) HW4.out rfl; clear e0 e1 e2 e3)
      have HB4 : Hid (Below w0.heap.size w0 w4) := by
        refine (HB.out.alloc HB.out.size (.cells #[.int .i64 0, .string ⟨#[]⟩, .int .i64 0, .slice none 0 0] 31)).grown HG4.out (by have := HSZW.out; simp; omega) (fun k hk => by injection hk with hk; have := HSZW.out; omega)
      have HI := Pl.hid (IH.out _ (List.getElem_mem hlt') (HSZ.out _ (List.getElem_mem hlt')) f0 f1 f2 f3 HREP.out w4 (HW.out.trans ((HB0.out.trans (HB4.out.mono HB0.out.size)).mono HW.out.size)))
      cases hok : (ts[i]'hlt').ok
      · rw [hok] at HI
        have HF : Hid (RT.okL ts = false) := by
          show _ = _
          rw [RT.okL_all, List.all_eq_false]
          exact ⟨_, List.getElem_mem hlt', by rw [hok]; exact Bool.false_ne_true⟩
        clear hok
        refine HI.out.mono ?_
        rintro e w5 ⟨rfl, hb5⟩
        have HB5 := Pl.hid (HB4.out.trans (hb5.mono HB4.out.size))
        clear hb5 q0 q1 q2 q3
        go_wp2_with fail
        go_ret
        rw [HOKF.out HF.out]
        exact ⟨rfl, HB0.out.trans (HB5.out.mono HB0.out.size)⟩
      · rw [hok] at HI
        have HOK' : Hid (RT.okL (ts.take (i + 1)) = true) := by
          show _ = _
          rw [RT.okL_take ts i hlt', HOK.out, hok]
          rfl
        clear hok
        refine HI.out.mono ?_
        rintro e w5 ⟨rfl, hb5⟩
        have HB5 := Pl.hid (HB4.out.trans (hb5.mono HB4.out.size))
        clear hb5 q0 q1 q2 q3
        go_wp2_with fail
        exact ⟨⟨i + 1, by go_num, by omega, HOK', HB5⟩, by simp [intOf]; omega⟩
    · obtain rfl : i = n := by omega
      have HF : Hid (RT.okL ts = true) := by have h := HOK.out; rw [HNN.out, List.take_length] at h; exact h
      go_wp2_with fail
      go_ret
      rw [HOKT.out HF.out]
      exact ⟨rfl, HB0.out.trans (HB.out.mono HB0.out.size)⟩
end Go.Proofs.YtakldjdohgmeiaaDoor

namespace Go.Proofs.YtakldjdohgmeiaaDoor
open Go.RowKit
set_option maxRecDepth 20000

set_option maxHeartbeats 8000000 in
theorem rdepth_walk (W : World) : ∀ (t : RT), t.sz ≤ 1073741824 → ∀ (c0 c1 c2 c3 : Value), Mm.RepX W t [c0, c1, c2, c3] → ∀ (w : World), Below W.heap.size W w →
    Calls Tryd.prog 54 #[.agg #[c0, c1, c2, c3]] w fun e w' => e = .returned (.int .i64 (t.depth : Nat)) ∧ Below w.heap.size w w' := by
  intro t
  induction t using RT.ind with
  | h k s nn ts ih =>
  intro hsz c0 c1 c2 c3 hX w hW
  obtain ⟨la, lc, hcs, hel⟩ := hX.open
  simp only [List.cons.injEq, and_true] at hcs
  obtain ⟨rfl, rfl, rfl, rfl⟩ := hcs
  rw [RT.sz_mk] at hsz
  by_cases h6 : k = 6
  case neg =>
    have hk6 : (k != 6) = true := bne_iff_ne.2 h6
    have hc : ∀ i u, (#[.int .i64 k, .string s, .int .i64 nn, .slice la ts.length lc] : Array Value)[i]? = some u → (w.alloc (.cells #[.int .i64 k, .string s, .int .i64 nn, .slice la ts.length lc] 31)).cell? ⟨w.heap.size, i, none⟩ = some u := fun i u h => by rw [World.cell?_alloc_mark]; exact h
    have e0 := hc 0 _ rfl
    have HB := Pl.hid ((Below.refl w.heap.size w).alloc (Nat.le_refl _) (.cells #[.int .i64 k, .string s, .int .i64 nn, .slice la ts.length lc] 31))
    rw [RT.depth_mk, if_neg h6]
    clear hc hel hX ih hW hsz
    go_enter Tryd.func54, Tryd.ntmps54
    go_wp2_with fail
    go_ret
    exact ⟨rfl, HB.out⟩
  subst h6
  rw [RT.depth_mk, if_pos rfl]
  obtain ⟨n, hnn⟩ : ∃ n, n = ts.length := ⟨_, rfl⟩
  have hn' : n ≤ 1099511627776 := by have := RT.szL_len ts; omega
  obtain ⟨p, hp⟩ : ∃ p, p = w.heap.size := ⟨_, rfl⟩
  obtain ⟨w0, hw0⟩ : ∃ w0, w0 = w.alloc (.cells #[.int .i64 6, .string s, .int .i64 nn, .slice la ts.length lc] 31) := ⟨_, rfl⟩
  have HP0 : Hid (w0.heap[p]? = some (.cells #[.int .i64 6, .string s, .int .i64 nn, .slice la ts.length lc] 31 (0, 0))) := by
    show _ = _
    rw [hw0, hp]
    exact heap_alloc_new w _
  have HB0 : Hid (Below w.heap.size w w0) := by rw [hw0]; exact (Below.refl _ _).alloc (Nat.le_refl _) _
  have HS0 : Hid (w0.heap.size = w.heap.size + 1) := by show _ = _; rw [hw0]; simp
  have HK : Hid (∀ V, Below w0.heap.size w0 V → V.cell? ⟨p, 0, none⟩ = some (.int .i64 6) ∧ V.cell? ⟨p, 1, none⟩ = some (.string s) ∧ V.cell? ⟨p, 2, none⟩ = some (.int .i64 nn) ∧ V.cell? ⟨p, 3, none⟩ = some (.slice la ts.length lc)) := fun V hV => by
    have h := (hV.block p (by rw [HS0.out, hp]; omega)).trans HP0.out
    exact ⟨Mm.cellOf h rfl, Mm.cellOf h rfl, Mm.cellOf h rfl, Mm.cellOf h rfl⟩
  have HW0eq := Pl.hid hw0
  have HPeq := Pl.hid hp
  obtain ⟨k0, k1, k2, k3⟩ := HK.out w0 (Below.refl _ _)
  have HNN := Pl.hid hnn
  have HW := Pl.hid hW
  have IH := Pl.hid ih
  have HSZ : Hid (∀ t ∈ ts, t.sz ≤ 1073741824) := fun t ht => by have := RT.szL_mem ht; omega
  have HSZL : Hid (RT.szL ts ≤ 1073741824) := by show _ ≤ _; omega
  have HEL := Pl.hid hel
  have HDL : Hid (RT.depthL ts ≤ 1073741824) := by have := RT.depthL_le ts; show _ ≤ _; omega
  rw [← hnn] at HK HW0eq k3 ⊢
  rw [hw0, hp] at k0 k1 k2 k3
  rw [← hnn] at k0 k1 k2 k3
  clear hel hsz hX ih hw0 hp hW hnn
  go_enter Tryd.func54, Tryd.ntmps54
  go_wp2_with fail
  rw [← HW0eq.out]
  clear k0 k1 k2 k3
  go_loopw [12, 3] (fun iv dv wr => ∃ (i : Nat) (d : Nat), iv = .int .i64 i ∧ dv = .int .i64 d ∧ i ≤ n ∧ d ≤ 1073741824 ∧ Hid (d = RT.depthL (ts.take i)) ∧ Hid (Below w0.heap.size w0 wr)) (fun iv _ _ => n - (intOf iv).toNat)
  case atStart => exact ⟨0, 0, rfl, rfl, Nat.zero_le _, by omega, by show _ = _; rw [List.take_zero]; simp [RT.depthL], Below.refl _ _⟩
  case round =>
    obtain ⟨i, d, rfl, rfl, hi, hd, HD, HB⟩ := hrel
    rcases Nat.lt_or_ge i n with hlt | hge
    · rcases HEL.out with h0 | ⟨blk, rfl, hbl, hel⟩
      · have := HNN.out; omega
      have hlt' : i < ts.length := by rw [← HNN.out]; exact hlt
      obtain ⟨f0, f1, f2, f3, g0, g1, g2, g3, hrep⟩ := hel i hlt'
      have HWr : Hid (Below W.heap.size W wr) := HW.out.trans ((HB0.out.trans (HB.out.mono HB0.out.size)).mono HW.out.size)
      have e0 := (HWr.out.cell (p := ⟨blk, i * 4, none⟩) hbl).trans g0
      have e1 := (HWr.out.cell (p := ⟨blk, i * 4 + 1, none⟩) hbl).trans g1
      have e2 := (HWr.out.cell (p := ⟨blk, i * 4 + 2, none⟩) hbl).trans g2
      have e3 := (HWr.out.cell (p := ⟨blk, i * 4 + 3, none⟩) hbl).trans g3
      have HREP := Pl.hid hrep
      clear g0 g1 g2 g3 hrep hel
      have HSZW : Hid (w0.heap.size ≤ wr.heap.size) := HB.out.size
      go_wp2_with (refine Mm.wp_store4 _ rfl _ _ rfl wr.heap.size _ _ _ _ _ _ (heap_alloc_new wr _) rfl rfl rfl HREP.out.one ?_; intro w4 hw4 hs4 hg4; have HW4 := Pl.hid hw4; have HG4 := Pl.hid hg4; have HS4 := Pl.hid hs4; clear hw4 hs4 hg4; have q0 := Mm.cellOf (i := 0) (v := f0) HW4.out rfl; have q1 := Mm.cellOf (i := 1) (v := f1) HW4.out rfl; have q2 := Mm.cellOf (i := 2) (v := f2) HW4.out rfl; have q3 := Mm.cellOf (i := 3) (v := f3) HW4.out rfl; clear e0 e1 e2 e3)
      have HB4 : Hid (Below w0.heap.size w0 w4) := by
        refine (HB.out.alloc HB.out.size (.cells #[.int .i64 0, .string ⟨#[]⟩, .int .i64 0, .slice none 0 0] 31)).grown HG4.out (by have := HSZW.out; simp; omega) (fun k hk => by injection hk with hk; have := HSZW.out; omega)
      have HI := Pl.hid (IH.out _ (List.getElem_mem hlt') (HSZ.out _ (List.getElem_mem hlt')) f0 f1 f2 f3 HREP.out w4 (HW.out.trans ((HB0.out.trans (HB4.out.mono HB0.out.size)).mono HW.out.size)))
      obtain ⟨E, hE⟩ : ∃ E, E = (ts[i]'hlt').depth := ⟨_, rfl⟩
      have hEl : E ≤ 1073741824 := by have := RT.depth_le (ts[i]'hlt'); have := HSZ.out _ (List.getElem_mem hlt'); omega
      have HE := Pl.hid hE
      rw [← hE] at HI
      clear hE
      refine HI.out.mono ?_
      rintro e w5 ⟨rfl, hb5⟩
      have HB5 := Pl.hid (HB4.out.trans (hb5.mono HB4.out.size))
      clear hb5 q0 q1 q2 q3
      go_wp2_with fail
      refine ⟨⟨i + 1, max d E, by go_num, by rw [show ((max d E : Nat) : Int) = max (d : Int) (E : Int) by omega], by omega, by omega, ?_, HB5⟩, by simp [intOf]; omega⟩
      show _ = _
      rw [RT.depthL_take ts i hlt', ← HE.out, HD.out]
    · obtain rfl : i = n := by omega
      have HF : Hid (d = RT.depthL ts) := by have h := HD.out; rw [HNN.out, List.take_length] at h; exact h
      go_wp2_with fail
      go_ret
      exact ⟨Pl.ret1i (by have := HF.out; omega), HB0.out.trans (HB.out.mono HB0.out.size)⟩
end Go.Proofs.YtakldjdohgmeiaaDoor

namespace Go.Proofs.YtakldjdohgmeiaaDoor
open Go.RowKit
set_option maxRecDepth 20000

theorem reftext_walk (n : Int) (w : World) (hn : Pl.In64 n) :
    Calls Tryd.prog 69 #[.int .i64 n] w fun e w' => e = .returned (.string (Pl.B (Lib.itoa n))) ∧ w = w' := by
  have HN := Pl.hid hn
  obtain ⟨n1, n2⟩ := hn
  rcases Int.lt_or_le n 0 with hneg | hpos
  · have HI := Pl.hid (Pl.itoa_neg hneg)
    go_enter Tryd.func69, Tryd.ntmps69
    go_wp2_with fail
    go_loop [3, 4] (fun sv mv => ∃ (m : Int) (u : Nat) (acc : List UInt8) (S : ByteArray), mv = .int .i64 m ∧ sv = .string S ∧ m < 0 ∧ n ≤ m ∧ Hid (S = Pl.B acc) ∧ Hid (m = -(u : Int)) ∧ Hid (Lib.decDigits n.natAbs = Lib.decDigits u ++ acc)) (fun _ m => (intOf m).natAbs)
    case atStart => exact ⟨n, n.natAbs, [], _, rfl, rfl, hneg, Int.le_refl _, rfl, (show n = _ by omega), (show _ = _ by rw [List.append_nil])⟩
    case round =>
      obtain ⟨m, u, acc, S, rfl, rfl, hm0, hmn, HS, HU, HD⟩ := hrel
      have hsz : S.size ≤ 21 := by rw [HS.out, Pl.B_size]; exact Pl.dec_acc HN.out HD.out
      have hu := HU.out
      have hmod : m.tmod 10 = -((u % 10 : Nat) : Int) := by rw [hu]; exact Pl.tmod_neg u
      have hdiv : m.tdiv 10 = -((u / 10 : Nat) : Int) := by rw [hu]; exact Pl.tdiv_neg u
      obtain ⟨k, hk⟩ : ∃ k, k = u % 10 := ⟨_, rfl⟩
      obtain ⟨T, hT⟩ : ∃ T, T = Pl.B [UInt8.ofNat (48 + k)] := ⟨_, rfl⟩
      have hk9 : k < 10 := by omega
      have hTs : T.size ≤ 1 := by rw [hT, Pl.B_size]; exact Nat.le_refl _
      have hrun := fun w' => ten_run k hk9 w'
      rw [← hT] at hrun
      rw [← hk] at hmod
      have HK := Pl.hid hk
      have HT := Pl.hid hT
      clear hk hT
      by_cases hlast : u < 10
      · have HL := Pl.hid (Pl.dec_last HD.out hlast HK.out)
        rw [show u / 10 = 0 by omega] at hdiv
        clear hu hlast
        rcases Nat.eq_zero_or_pos k with rfl | hk1
        · go_wp2_with fail
          go_ret
          exact ⟨Pl.ret1s (by rw [HI.out, ← HL.out, Pl.ten_zero, HS.out, Pl.B_append, show (⟨#[45]⟩ : ByteArray) = Pl.B [45] from rfl, Pl.B_append]; rfl), rfl⟩
        · go_wp2_with fail
          go_ret
          exact ⟨Pl.ret1s (by rw [HI.out, ← HL.out, HT.out, HS.out, Pl.B_append, show (⟨#[45]⟩ : ByteArray) = Pl.B [45] from rfl, Pl.B_append]; rfl), rfl⟩
      · have HL := Pl.hid (Pl.dec_step HD.out hlast HK.out)
        obtain ⟨q, hq⟩ : ∃ q : Int, q = -((u / 10 : Nat) : Int) := ⟨_, rfl⟩
        have hq0 : q < 0 ∧ n ≤ q := by omega
        have hq1 : (q == 0) = false := beq_eq_false_iff_ne.2 (by omega)
        have HM : Hid (q.natAbs < m.natAbs) := by show _ < _; omega
        rw [← hq] at hdiv
        have HQ := Pl.hid hq
        clear hu hlast hq
        rcases Nat.eq_zero_or_pos k with rfl | hk1
        · go_wp2_with fail
          go_round
          case rel => exact ⟨q, u / 10, [UInt8.ofNat (48 + 0)] ++ acc, _, rfl, rfl, by omega, by omega, (show _ = _ by rw [Pl.ten_zero, HS.out, Pl.B_append]), HQ, HL⟩
          case measure => simp only [intOf]; exact HM.out
        · go_wp2_with fail
          go_round
          case rel => exact ⟨q, u / 10, [UInt8.ofNat (48 + k)] ++ acc, _, rfl, rfl, by omega, by omega, (show _ = _ by rw [HT.out, HS.out, Pl.B_append]), HQ, HL⟩
          case measure => simp only [intOf]; exact HM.out
  · have HI := Pl.hid (Pl.itoa_pos hpos)
    go_enter Tryd.func69, Tryd.ntmps69
    go_wp2_with fail
    go_loop [3, 4] (fun sv mv => ∃ (m : Int) (u : Nat) (acc : List UInt8) (S : ByteArray), mv = .int .i64 m ∧ sv = .string S ∧ 0 ≤ m ∧ m ≤ n ∧ Hid (S = Pl.B acc) ∧ Hid (m = (u : Int)) ∧ Hid (Lib.decDigits n.natAbs = Lib.decDigits u ++ acc)) (fun _ m => (intOf m).natAbs)
    case atStart => exact ⟨n, n.natAbs, [], _, rfl, rfl, hpos, Int.le_refl _, rfl, (show n = _ by omega), (show _ = _ by rw [List.append_nil])⟩
    case round =>
      obtain ⟨m, u, acc, S, rfl, rfl, hm0, hmn, HS, HU, HD⟩ := hrel
      have hsz : S.size ≤ 21 := by rw [HS.out, Pl.B_size]; exact Pl.dec_acc HN.out HD.out
      have hu := HU.out
      have hmod : m.tmod 10 = ((u % 10 : Nat) : Int) := by rw [hu]; exact Pl.tmod_pos u
      have hdiv : m.tdiv 10 = ((u / 10 : Nat) : Int) := by rw [hu]; exact Pl.tdiv_pos u
      obtain ⟨k, hk⟩ : ∃ k, k = u % 10 := ⟨_, rfl⟩
      obtain ⟨T, hT⟩ : ∃ T, T = Pl.B [UInt8.ofNat (48 + k)] := ⟨_, rfl⟩
      have hk9 : k < 10 := by omega
      have hTs : T.size ≤ 1 := by rw [hT, Pl.B_size]; exact Nat.le_refl _
      have hrun := fun w' => ten_run k hk9 w'
      rw [← hT] at hrun
      rw [← hk] at hmod
      have HK := Pl.hid hk
      have HT := Pl.hid hT
      clear hk hT
      have hmod2 : m % 10 = (k : Int) := by rw [hu]; have := HK.out; omega
      have hdiv2 : m / 10 = ((u / 10 : Nat) : Int) := by rw [hu]; omega
      by_cases hlast : u < 10
      · have HL := Pl.hid (Pl.dec_last HD.out hlast HK.out)
        have HAbs : Hid (n.natAbs = n.toNat) := by show _ = _; omega
        rw [show u / 10 = 0 by omega] at hdiv hdiv2
        clear hu hlast
        go_wp2_with fail
        go_ret
        exact ⟨Pl.ret1s (by rw [HI.out, HT.out, HS.out, Pl.B_append, HL.out, HAbs.out]), rfl⟩
      · have HL := Pl.hid (Pl.dec_step HD.out hlast HK.out)
        obtain ⟨q, hq⟩ : ∃ q : Int, q = ((u / 10 : Nat) : Int) := ⟨_, rfl⟩
        have hq0 : 0 < q ∧ q ≤ n := by omega
        have hq1 : (q == 0) = false := beq_eq_false_iff_ne.2 (by omega)
        have HM : Hid (q.natAbs < m.natAbs) := by show _ < _; omega
        rw [← hq] at hdiv hdiv2
        have HQ := Pl.hid hq
        clear hu hlast hq
        go_wp2_with fail
        go_round
        case rel => exact ⟨q, u / 10, [UInt8.ofNat (48 + k)] ++ acc, _, rfl, rfl, by omega, by omega, (show _ = _ by rw [HT.out, HS.out, Pl.B_append]), HQ, HL⟩
        case measure => simp only [intOf]; exact HM.out
end Go.Proofs.YtakldjdohgmeiaaDoor

namespace Go.Proofs.YtakldjdohgmeiaaDoor
open Go.RowKit
set_option maxRecDepth 20000

set_option maxHeartbeats 4000000 in
theorem written_1 (s : ByteArray) (most : Int) (la : Option Addr) (lc base : Nat) (v : Value) (l : List UInt8) (w : World) (hb : base ≤ w.heap.size) (ho : Mm.OwnB w base v l) (hl : l.length ≤ 1099511627776) (hs : s.size ≤ 1099511627776) :
    Calls Tryd.prog 55 #[v, .agg #[.int .i64 1, .string s, .int .i64 0, .slice la 0 lc], .int .i64 most] w fun e w' => ∃ v', e = .returned v' ∧ Mm.OwnB w' base v' (l ++ ([43] ++ Pl.L s ++ Pl.crlf)) ∧ Below base w w' ∧ Mm.NB w w' := by
  obtain ⟨p, hp⟩ : ∃ p, p = w.heap.size := ⟨_, rfl⟩
  obtain ⟨w0, hw0⟩ : ∃ w0, w0 = w.alloc (.cells #[.int .i64 1, .string s, .int .i64 0, .slice la 0 lc] 31) := ⟨_, rfl⟩
  have HP0 : Hid (w0.heap[p]? = some (.cells #[.int .i64 1, .string s, .int .i64 0, .slice la 0 lc] 31 (0, 0))) := by
    show _ = _
    rw [hw0, hp]
    exact heap_alloc_new w _
  have HB0 : Hid (Below w.heap.size w w0) := by rw [hw0]; exact (Below.refl _ _).alloc (Nat.le_refl _) _
  have HS0 : Hid (w0.heap.size = w.heap.size + 1) := by show _ = _; rw [hw0]; simp
  have hnu : ¬ Mm.isU8 (.cells #[.int .i64 1, .string s, .int .i64 0, .slice la 0 lc] 31 (0, 0)) := by
    rintro ⟨cs, fr, e⟩
    injection e with _ e _
    exact absurd e (by decide)
  have HK : Hid (∀ V, Mm.NB w0 V → V.cell? ⟨p, 0, none⟩ = some (.int .i64 1) ∧ V.cell? ⟨p, 1, none⟩ = some (.string s)) := fun V hV => by
    have h := hV p _ HP0.out hnu
    exact ⟨Mm.cellOf h rfl, Mm.cellOf h rfl⟩
  have HO0 : Hid (Mm.OwnB w0 base v l) := ho.keep fun g hg => HB0.out.block g (ho.lt g hg).2
  have hb0 : base ≤ w0.heap.size := by rw [HS0.out]; omega
  have HBB := Pl.hid hb
  have HW0eq := Pl.hid hw0
  have HPeq := Pl.hid hp
  obtain ⟨k0, k1⟩ := HK.out w0 (Mm.NB.refl _)
  have HE : Hid (((⟨#[43]⟩ : ByteArray) ++ s ++ ⟨#[13, 10]⟩).size = s.size + 3) := by show _ = _; rw [ByteArray.size_append, ByteArray.size_append, show (⟨#[43]⟩ : ByteArray).size = 1 from rfl, show (⟨#[13, 10]⟩ : ByteArray).size = 2 from rfl]; omega
  have HE2 : Hid (Pl.L ((⟨#[43]⟩ : ByteArray) ++ s ++ ⟨#[13, 10]⟩) = [43] ++ Pl.L s ++ Pl.crlf) := by
    show _ = _
    rw [← Pl.B_L s, show (⟨#[43]⟩ : ByteArray) = Pl.B [43] from rfl, show (⟨#[13, 10]⟩ : ByteArray) = Pl.B Pl.crlf from rfl, Pl.B_append, Pl.B_append, Pl.L_B, Pl.L_B]
  obtain ⟨X, hX⟩ : ∃ X, X = (⟨#[43]⟩ : ByteArray) ++ s ++ ⟨#[13, 10]⟩ := ⟨_, rfl⟩
  rw [← hX] at HE HE2
  have HX := Pl.hid hX
  clear hw0 hp hnu ho hX
  go_enter Tryd.func55, Tryd.ntmps55
  go_wp2_with (at_builtin; rw [← HW0eq.out]; refine Mm.wp_appSN w0 rfl _ _ (by rfl) base v l X (by rfl) (by exact congrArg Value.string HX.out.symm) HO0.out (by have := HE.out; omega) hb0 ?_; intro v3 w3 ho3 hb3 hn3; have HO3 := Pl.hid ho3; have HB3 := Pl.hid hb3; have HN3 := Pl.hid hn3; clear ho3 hb3 hn3)
  go_ret
  refine ⟨v3, rfl, ?_, (HB0.out.mono HBB.out).trans HB3.out, (Mm.NB.below HB0.out).trans HN3.out⟩
  have h := HO3.out
  rw [HE2.out] at h
  exact h
set_option maxHeartbeats 4000000 in
theorem written_2 (s : ByteArray) (most : Int) (la : Option Addr) (lc base : Nat) (v : Value) (l : List UInt8) (w : World) (hb : base ≤ w.heap.size) (ho : Mm.OwnB w base v l) (hl : l.length ≤ 1099511627776) (hs : s.size ≤ 1099511627776) :
    Calls Tryd.prog 55 #[v, .agg #[.int .i64 2, .string s, .int .i64 0, .slice la 0 lc], .int .i64 most] w fun e w' => ∃ v', e = .returned v' ∧ Mm.OwnB w' base v' (l ++ ([45] ++ Pl.L s ++ Pl.crlf)) ∧ Below base w w' ∧ Mm.NB w w' := by
  obtain ⟨p, hp⟩ : ∃ p, p = w.heap.size := ⟨_, rfl⟩
  obtain ⟨w0, hw0⟩ : ∃ w0, w0 = w.alloc (.cells #[.int .i64 2, .string s, .int .i64 0, .slice la 0 lc] 31) := ⟨_, rfl⟩
  have HP0 : Hid (w0.heap[p]? = some (.cells #[.int .i64 2, .string s, .int .i64 0, .slice la 0 lc] 31 (0, 0))) := by
    show _ = _
    rw [hw0, hp]
    exact heap_alloc_new w _
  have HB0 : Hid (Below w.heap.size w w0) := by rw [hw0]; exact (Below.refl _ _).alloc (Nat.le_refl _) _
  have HS0 : Hid (w0.heap.size = w.heap.size + 1) := by show _ = _; rw [hw0]; simp
  have hnu : ¬ Mm.isU8 (.cells #[.int .i64 2, .string s, .int .i64 0, .slice la 0 lc] 31 (0, 0)) := by
    rintro ⟨cs, fr, e⟩
    injection e with _ e _
    exact absurd e (by decide)
  have HK : Hid (∀ V, Mm.NB w0 V → V.cell? ⟨p, 0, none⟩ = some (.int .i64 2) ∧ V.cell? ⟨p, 1, none⟩ = some (.string s)) := fun V hV => by
    have h := hV p _ HP0.out hnu
    exact ⟨Mm.cellOf h rfl, Mm.cellOf h rfl⟩
  have HO0 : Hid (Mm.OwnB w0 base v l) := ho.keep fun g hg => HB0.out.block g (ho.lt g hg).2
  have hb0 : base ≤ w0.heap.size := by rw [HS0.out]; omega
  have HBB := Pl.hid hb
  have HW0eq := Pl.hid hw0
  have HPeq := Pl.hid hp
  obtain ⟨k0, k1⟩ := HK.out w0 (Mm.NB.refl _)
  have HE : Hid (((⟨#[45]⟩ : ByteArray) ++ s ++ ⟨#[13, 10]⟩).size = s.size + 3) := by show _ = _; rw [ByteArray.size_append, ByteArray.size_append, show (⟨#[45]⟩ : ByteArray).size = 1 from rfl, show (⟨#[13, 10]⟩ : ByteArray).size = 2 from rfl]; omega
  have HE2 : Hid (Pl.L ((⟨#[45]⟩ : ByteArray) ++ s ++ ⟨#[13, 10]⟩) = [45] ++ Pl.L s ++ Pl.crlf) := by
    show _ = _
    rw [← Pl.B_L s, show (⟨#[45]⟩ : ByteArray) = Pl.B [45] from rfl, show (⟨#[13, 10]⟩ : ByteArray) = Pl.B Pl.crlf from rfl, Pl.B_append, Pl.B_append, Pl.L_B, Pl.L_B]
  obtain ⟨X, hX⟩ : ∃ X, X = (⟨#[45]⟩ : ByteArray) ++ s ++ ⟨#[13, 10]⟩ := ⟨_, rfl⟩
  rw [← hX] at HE HE2
  have HX := Pl.hid hX
  clear hw0 hp hnu ho hX
  go_enter Tryd.func55, Tryd.ntmps55
  go_wp2_with (at_builtin; rw [← HW0eq.out]; refine Mm.wp_appSN w0 rfl _ _ (by rfl) base v l X (by rfl) (by exact congrArg Value.string HX.out.symm) HO0.out (by have := HE.out; omega) hb0 ?_; intro v3 w3 ho3 hb3 hn3; have HO3 := Pl.hid ho3; have HB3 := Pl.hid hb3; have HN3 := Pl.hid hn3; clear ho3 hb3 hn3)
  go_ret
  refine ⟨v3, rfl, ?_, (HB0.out.mono HBB.out).trans HB3.out, (Mm.NB.below HB0.out).trans HN3.out⟩
  have h := HO3.out
  rw [HE2.out] at h
  exact h
set_option maxHeartbeats 4000000 in
theorem written_5 (s : ByteArray) (most : Int) (la : Option Addr) (lc base : Nat) (v : Value) (l : List UInt8) (w : World) (hb : base ≤ w.heap.size) (ho : Mm.OwnB w base v l) (hl : l.length ≤ 1099511627776) (hs : s.size ≤ 1099511627776) :
    Calls Tryd.prog 55 #[v, .agg #[.int .i64 5, .string s, .int .i64 0, .slice la 0 lc], .int .i64 most] w fun e w' => ∃ v', e = .returned v' ∧ Mm.OwnB w' base v' (l ++ ([36, 45, 49, 13, 10])) ∧ Below base w w' ∧ Mm.NB w w' := by
  obtain ⟨p, hp⟩ : ∃ p, p = w.heap.size := ⟨_, rfl⟩
  obtain ⟨w0, hw0⟩ : ∃ w0, w0 = w.alloc (.cells #[.int .i64 5, .string s, .int .i64 0, .slice la 0 lc] 31) := ⟨_, rfl⟩
  have HP0 : Hid (w0.heap[p]? = some (.cells #[.int .i64 5, .string s, .int .i64 0, .slice la 0 lc] 31 (0, 0))) := by
    show _ = _
    rw [hw0, hp]
    exact heap_alloc_new w _
  have HB0 : Hid (Below w.heap.size w w0) := by rw [hw0]; exact (Below.refl _ _).alloc (Nat.le_refl _) _
  have HS0 : Hid (w0.heap.size = w.heap.size + 1) := by show _ = _; rw [hw0]; simp
  have hnu : ¬ Mm.isU8 (.cells #[.int .i64 5, .string s, .int .i64 0, .slice la 0 lc] 31 (0, 0)) := by
    rintro ⟨cs, fr, e⟩
    injection e with _ e _
    exact absurd e (by decide)
  have HK : Hid (∀ V, Mm.NB w0 V → V.cell? ⟨p, 0, none⟩ = some (.int .i64 5) ∧ V.cell? ⟨p, 1, none⟩ = some (.string s)) := fun V hV => by
    have h := hV p _ HP0.out hnu
    exact ⟨Mm.cellOf h rfl, Mm.cellOf h rfl⟩
  have HO0 : Hid (Mm.OwnB w0 base v l) := ho.keep fun g hg => HB0.out.block g (ho.lt g hg).2
  have hb0 : base ≤ w0.heap.size := by rw [HS0.out]; omega
  have HBB := Pl.hid hb
  have HW0eq := Pl.hid hw0
  have HPeq := Pl.hid hp
  obtain ⟨k0, k1⟩ := HK.out w0 (Mm.NB.refl _)
  clear hw0 hp hnu ho
  go_enter Tryd.func55, Tryd.ntmps55
  go_wp2_with (at_builtin; rw [← HW0eq.out]; refine Mm.wp_appSN w0 rfl _ _ (by rfl) base v l ⟨#[36, 45, 49, 13, 10]⟩ (by rfl) (by rfl) HO0.out (by have : (⟨#[36, 45, 49, 13, 10]⟩ : ByteArray).size = 5 := rfl; omega) hb0 ?_; intro v3 w3 ho3 hb3 hn3; have HO3 := Pl.hid ho3; have HB3 := Pl.hid hb3; have HN3 := Pl.hid hn3; clear ho3 hb3 hn3)
  go_ret
  exact ⟨v3, rfl, HO3.out, (HB0.out.mono HBB.out).trans HB3.out, (Mm.NB.below HB0.out).trans HN3.out⟩
set_option maxHeartbeats 4000000 in
theorem written_7 (s : ByteArray) (most : Int) (la : Option Addr) (lc base : Nat) (v : Value) (l : List UInt8) (w : World) (hb : base ≤ w.heap.size) (ho : Mm.OwnB w base v l) (hl : l.length ≤ 1099511627776) (hs : s.size ≤ 1099511627776) :
    Calls Tryd.prog 55 #[v, .agg #[.int .i64 7, .string s, .int .i64 0, .slice la 0 lc], .int .i64 most] w fun e w' => ∃ v', e = .returned v' ∧ Mm.OwnB w' base v' (l ++ ([42, 45, 49, 13, 10])) ∧ Below base w w' ∧ Mm.NB w w' := by
  obtain ⟨p, hp⟩ : ∃ p, p = w.heap.size := ⟨_, rfl⟩
  obtain ⟨w0, hw0⟩ : ∃ w0, w0 = w.alloc (.cells #[.int .i64 7, .string s, .int .i64 0, .slice la 0 lc] 31) := ⟨_, rfl⟩
  have HP0 : Hid (w0.heap[p]? = some (.cells #[.int .i64 7, .string s, .int .i64 0, .slice la 0 lc] 31 (0, 0))) := by
    show _ = _
    rw [hw0, hp]
    exact heap_alloc_new w _
  have HB0 : Hid (Below w.heap.size w w0) := by rw [hw0]; exact (Below.refl _ _).alloc (Nat.le_refl _) _
  have HS0 : Hid (w0.heap.size = w.heap.size + 1) := by show _ = _; rw [hw0]; simp
  have hnu : ¬ Mm.isU8 (.cells #[.int .i64 7, .string s, .int .i64 0, .slice la 0 lc] 31 (0, 0)) := by
    rintro ⟨cs, fr, e⟩
    injection e with _ e _
    exact absurd e (by decide)
  have HK : Hid (∀ V, Mm.NB w0 V → V.cell? ⟨p, 0, none⟩ = some (.int .i64 7) ∧ V.cell? ⟨p, 1, none⟩ = some (.string s)) := fun V hV => by
    have h := hV p _ HP0.out hnu
    exact ⟨Mm.cellOf h rfl, Mm.cellOf h rfl⟩
  have HO0 : Hid (Mm.OwnB w0 base v l) := ho.keep fun g hg => HB0.out.block g (ho.lt g hg).2
  have hb0 : base ≤ w0.heap.size := by rw [HS0.out]; omega
  have HBB := Pl.hid hb
  have HW0eq := Pl.hid hw0
  have HPeq := Pl.hid hp
  obtain ⟨k0, k1⟩ := HK.out w0 (Mm.NB.refl _)
  clear hw0 hp hnu ho
  go_enter Tryd.func55, Tryd.ntmps55
  go_wp2_with (at_builtin; rw [← HW0eq.out]; refine Mm.wp_appSN w0 rfl _ _ (by rfl) base v l ⟨#[42, 45, 49, 13, 10]⟩ (by rfl) (by rfl) HO0.out (by have : (⟨#[42, 45, 49, 13, 10]⟩ : ByteArray).size = 5 := rfl; omega) hb0 ?_; intro v3 w3 ho3 hb3 hn3; have HO3 := Pl.hid ho3; have HB3 := Pl.hid hb3; have HN3 := Pl.hid hn3; clear ho3 hb3 hn3)
  go_ret
  exact ⟨v3, rfl, HO3.out, (HB0.out.mono HBB.out).trans HB3.out, (Mm.NB.below HB0.out).trans HN3.out⟩
set_option maxHeartbeats 4000000 in
theorem written_3 (s : ByteArray) (n : Int) (hn : Pl.In64 n) (most : Int) (la : Option Addr) (lc base : Nat) (v : Value) (l : List UInt8) (w : World) (hb : base ≤ w.heap.size) (ho : Mm.OwnB w base v l) (hl : l.length ≤ 1099511627776) (hs : s.size ≤ 1099511627776) :
    Calls Tryd.prog 55 #[v, .agg #[.int .i64 3, .string s, .int .i64 n, .slice la 0 lc], .int .i64 most] w fun e w' => ∃ v', e = .returned v' ∧ Mm.OwnB w' base v' (l ++ ([58] ++ Lib.itoa n ++ Pl.crlf)) ∧ Below base w w' ∧ Mm.NB w w' := by
  obtain ⟨p, hp⟩ : ∃ p, p = w.heap.size := ⟨_, rfl⟩
  obtain ⟨w0, hw0⟩ : ∃ w0, w0 = w.alloc (.cells #[.int .i64 3, .string s, .int .i64 n, .slice la 0 lc] 31) := ⟨_, rfl⟩
  have HP0 : Hid (w0.heap[p]? = some (.cells #[.int .i64 3, .string s, .int .i64 n, .slice la 0 lc] 31 (0, 0))) := by
    show _ = _
    rw [hw0, hp]
    exact heap_alloc_new w _
  have HB0 : Hid (Below w.heap.size w w0) := by rw [hw0]; exact (Below.refl _ _).alloc (Nat.le_refl _) _
  have HS0 : Hid (w0.heap.size = w.heap.size + 1) := by show _ = _; rw [hw0]; simp
  have hnu : ¬ Mm.isU8 (.cells #[.int .i64 3, .string s, .int .i64 n, .slice la 0 lc] 31 (0, 0)) := by
    rintro ⟨cs, fr, e⟩
    injection e with _ e _
    exact absurd e (by decide)
  have HK : Hid (∀ V, Mm.NB w0 V → V.cell? ⟨p, 0, none⟩ = some (.int .i64 3) ∧ V.cell? ⟨p, 1, none⟩ = some (.string s)) := fun V hV => by
    have h := hV p _ HP0.out hnu
    exact ⟨Mm.cellOf h rfl, Mm.cellOf h rfl⟩
  have HO0 : Hid (Mm.OwnB w0 base v l) := ho.keep fun g hg => HB0.out.block g (ho.lt g hg).2
  have hb0 : base ≤ w0.heap.size := by rw [HS0.out]; omega
  have HBB := Pl.hid hb
  have HW0eq := Pl.hid hw0
  have HPeq := Pl.hid hp
  obtain ⟨k0, k1⟩ := HK.out w0 (Mm.NB.refl _)
  obtain ⟨TX, hTX⟩ : ∃ TX, TX = Pl.B (Lib.itoa n) := ⟨_, rfl⟩
  have hTs : TX.size ≤ 21 := by rw [hTX, Pl.B_size]; exact Pl.itoa_le _ hn
  have HTW := Pl.hid (fun w' => reftext_walk n w' hn)
  rw [← hTX] at HTW
  have HE : Hid (((⟨#[58]⟩ : ByteArray) ++ TX ++ ⟨#[13, 10]⟩).size ≤ 24) := by show _ ≤ _; rw [ByteArray.size_append, ByteArray.size_append, show (⟨#[58]⟩ : ByteArray).size = 1 from rfl, show (⟨#[13, 10]⟩ : ByteArray).size = 2 from rfl]; omega
  have HE2 : Hid (Pl.L ((⟨#[58]⟩ : ByteArray) ++ TX ++ ⟨#[13, 10]⟩) = [58] ++ Lib.itoa n ++ Pl.crlf) := by
    show _ = _
    rw [hTX, show (⟨#[58]⟩ : ByteArray) = Pl.B [58] from rfl, show (⟨#[13, 10]⟩ : ByteArray) = Pl.B Pl.crlf from rfl, Pl.B_append, Pl.B_append, Pl.L_B]
  clear hw0 hp hnu ho hTX hn
  go_enter Tryd.func55, Tryd.ntmps55
  go_wp2_with (first
    | (go_at_call 69; rw [← HW0eq.out]; refine (HTW.out w0).mono ?_; rintro e w2 ⟨rfl, rfl⟩)
    | (at_builtin; refine Mm.wp_appSN w0 rfl _ _ (by rfl) base v l ((⟨#[58]⟩ : ByteArray) ++ TX ++ ⟨#[13, 10]⟩) (by rfl) (by rfl) HO0.out (by have := HE.out; omega) hb0 ?_; intro v3 w3 ho3 hb3 hn3; have HO3 := Pl.hid ho3; have HB3 := Pl.hid hb3; have HN3 := Pl.hid hn3; clear ho3 hb3 hn3))
  go_ret
  refine ⟨v3, rfl, ?_, (HB0.out.mono HBB.out).trans HB3.out, (Mm.NB.below HB0.out).trans HN3.out⟩
  have h := HO3.out
  rw [HE2.out] at h
  exact h
set_option maxHeartbeats 4000000 in
theorem written_4 (s : ByteArray) (most : Int) (la : Option Addr) (lc base : Nat) (v : Value) (l : List UInt8) (w : World) (hb : base ≤ w.heap.size) (ho : Mm.OwnB w base v l) (hl : l.length ≤ 1099511627776) (hs : s.size ≤ 1099511627776) :
    Calls Tryd.prog 55 #[v, .agg #[.int .i64 4, .string s, .int .i64 0, .slice la 0 lc], .int .i64 most] w fun e w' => ∃ v', e = .returned v' ∧ Mm.OwnB w' base v' (l ++ (Pl.bulkE (Pl.L s))) ∧ Below base w w' ∧ Mm.NB w w' := by
  obtain ⟨p, hp⟩ : ∃ p, p = w.heap.size := ⟨_, rfl⟩
  obtain ⟨w0, hw0⟩ : ∃ w0, w0 = w.alloc (.cells #[.int .i64 4, .string s, .int .i64 0, .slice la 0 lc] 31) := ⟨_, rfl⟩
  have HP0 : Hid (w0.heap[p]? = some (.cells #[.int .i64 4, .string s, .int .i64 0, .slice la 0 lc] 31 (0, 0))) := by
    show _ = _
    rw [hw0, hp]
    exact heap_alloc_new w _
  have HB0 : Hid (Below w.heap.size w w0) := by rw [hw0]; exact (Below.refl _ _).alloc (Nat.le_refl _) _
  have HS0 : Hid (w0.heap.size = w.heap.size + 1) := by show _ = _; rw [hw0]; simp
  have hnu : ¬ Mm.isU8 (.cells #[.int .i64 4, .string s, .int .i64 0, .slice la 0 lc] 31 (0, 0)) := by
    rintro ⟨cs, fr, e⟩
    injection e with _ e _
    exact absurd e (by decide)
  have HK : Hid (∀ V, Mm.NB w0 V → V.cell? ⟨p, 0, none⟩ = some (.int .i64 4) ∧ V.cell? ⟨p, 1, none⟩ = some (.string s)) := fun V hV => by
    have h := hV p _ HP0.out hnu
    exact ⟨Mm.cellOf h rfl, Mm.cellOf h rfl⟩
  have HO0 : Hid (Mm.OwnB w0 base v l) := ho.keep fun g hg => HB0.out.block g (ho.lt g hg).2
  have hb0 : base ≤ w0.heap.size := by rw [HS0.out]; omega
  have HBB := Pl.hid hb
  have HW0eq := Pl.hid hw0
  have HPeq := Pl.hid hp
  obtain ⟨k0, k1⟩ := HK.out w0 (Mm.NB.refl _)
  obtain ⟨TX, hTX⟩ : ∃ TX, TX = Pl.B (Lib.itoa (s.size : Int)) := ⟨_, rfl⟩
  have hTs : TX.size ≤ 21 := by rw [hTX, Pl.B_size]; exact Pl.itoa_le _ (by unfold Pl.In64; omega)
  have HTW := Pl.hid (fun w' => reftext_walk (s.size : Int) w' (by unfold Pl.In64; omega))
  rw [← hTX] at HTW
  obtain ⟨X, hX⟩ : ∃ X, X = (⟨#[36]⟩ : ByteArray) ++ TX ++ ⟨#[13, 10]⟩ := ⟨_, rfl⟩
  have HE : Hid (X.size ≤ 24) := by show _ ≤ _; rw [hX, ByteArray.size_append, ByteArray.size_append, show (⟨#[36]⟩ : ByteArray).size = 1 from rfl, show (⟨#[13, 10]⟩ : ByteArray).size = 2 from rfl]; omega
  have HE2 : Hid (l ++ Pl.L X ++ Pl.L s ++ Pl.L ⟨#[13, 10]⟩ = l ++ Pl.bulkE (Pl.L s)) := by
    show _ = _
    rw [hX, hTX, show (⟨#[36]⟩ : ByteArray) = Pl.B [36] from rfl, show (⟨#[13, 10]⟩ : ByteArray) = Pl.B Pl.crlf from rfl, Pl.B_append, Pl.B_append, Pl.L_B, Pl.L_B, Pl.itoa_pos (by omega)]
    unfold Pl.bulkE
    rw [Pl.L_length]
    simp
  have HL1 : Hid ((l ++ Pl.L X).length ≤ 1099511627800) := by show _ ≤ _; rw [List.length_append, Pl.L_length]; have := HE.out; omega
  have HL2 : Hid ((l ++ Pl.L X ++ Pl.L s).length ≤ 2199023255600) := by show _ ≤ _; have := HL1.out; rw [List.length_append, Pl.L_length]; omega
  have HX := Pl.hid hX
  clear hw0 hp hnu ho hTX hX
  go_enter Tryd.func55, Tryd.ntmps55
  go_wp2_with (first
    | (go_at_call 69; rw [← HW0eq.out]; refine (HTW.out w0).mono ?_; rintro e w2 ⟨rfl, rfl⟩; rw [← HPeq.out])
    | (at_builtin; refine Mm.wp_appSN w0 rfl _ _ (by rfl) base v l X (by rfl) (by exact congrArg Value.string HX.out.symm) HO0.out (by have := HE.out; omega) hb0 ?_; intro v3 w3 ho3 hb3 hn3; have HO3 := Pl.hid ho3; have HB3 := Pl.hid hb3; have HN3 := Pl.hid hn3; clear ho3 hb3 hn3 k0 k1; obtain ⟨k0, k1⟩ := HK.out w3 HN3.out)
    | (at_builtin; refine Mm.wp_appSN w3 rfl _ _ (by rfl) base v3 (l ++ Pl.L X) s (by rfl) (by rfl) HO3.out (by have := HL1.out; omega) (Nat.le_trans hb0 HB3.out.size) ?_; intro v4 w4 ho4 hb4 hn4; have HO4 := Pl.hid ho4; have HB4 := Pl.hid (HB3.out.trans hb4); have HN4 := Pl.hid (HN3.out.trans hn4); clear ho4 hb4 hn4)
    | (at_builtin; refine Mm.wp_appSN w4 rfl _ _ (by rfl) base v4 (l ++ Pl.L X ++ Pl.L s) ⟨#[13, 10]⟩ (by rfl) (by rfl) HO4.out (by have := HL2.out; have : (⟨#[13, 10]⟩ : ByteArray).size = 2 := rfl; omega) (Nat.le_trans hb0 HB4.out.size) ?_; intro v5 w5 ho5 hb5 hn5; have HO5 := Pl.hid ho5; have HB5 := Pl.hid (HB4.out.trans hb5); have HN5 := Pl.hid (HN4.out.trans hn5); clear ho5 hb5 hn5))
  go_ret
  refine ⟨v5, rfl, ?_, (HB0.out.mono HBB.out).trans HB5.out, (Mm.NB.below HB0.out).trans HN5.out⟩
  have h := HO5.out
  rw [HE2.out] at h
  exact h
end Go.Proofs.YtakldjdohgmeiaaDoor
