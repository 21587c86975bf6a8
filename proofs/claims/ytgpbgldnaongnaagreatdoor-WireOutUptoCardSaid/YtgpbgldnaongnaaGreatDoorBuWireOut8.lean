/- reply's looked, where a reply's own fields may not be, and where they may and it has no list. Conditions stand in each law. reply's size of a reply that may be. Conditions stand in each law. reply's looked of any reply. Conditions stand in each law. reply's Encode of any reply. Conditions stand in each law. Conditions stand in each law. -/
import Derived.Test.YtgpbgldnaongnaaGreatDoorBuWireOut7
namespace Go.Proofs.YtgpbgldnaongnaaGreatDoor
open Go.RowKit
set_option maxRecDepth 20000

namespace Pl
theorem isE_true {s : ByteArray} (h : s.size = 0) : s = ⟨#[]⟩ := by
  obtain ⟨⟨l⟩⟩ := s
  cases l with
  | nil => rfl
  | cons a l => exact absurd h (by show (a :: l).length ≠ 0; simp)
theorem isE_false {s : ByteArray} (h : s.size ≠ 0) : s.toList.isEmpty = false := by
  rw [Lib.toList_data]
  cases h' : s.data.toList with
  | nil => exact absurd (by have := Lib.size_eq s; rw [h'] at this; exact this) h
  | cons _ _ => rfl
end Pl
set_option maxHeartbeats 4000000 in
theorem looked_1_fvv (s : ByteArray) (n : Int) (la : Option Addr) (ln lc : Nat) (w : World) (hz : s.size < 4294967281) (hs : Pl.noEnd (Pl.L s) = false) :
    Calls Tryz.prog 20 #[.agg #[.int .i64 1, .string s, .int .i64 n, .slice la ln lc]] w fun e w' => e = .returned (.tuple #[.int .i64 0, .bool false]) ∧ Below w.heap.size w w' := by
  have hc : ∀ i u, (#[.int .i64 1, .string s, .int .i64 n, .slice la ln lc] : Array Value)[i]? = some u → (w.alloc (.cells #[.int .i64 1, .string s, .int .i64 n, .slice la ln lc] 25)).cell? ⟨w.heap.size, i, none⟩ = some u := fun i u h => by rw [World.cell?_alloc_mark]; exact h
  have e0 := hc 0 _ rfl
  have e1 := hc 1 _ rfl
  have e2 := hc 2 _ rfl
  have e3 := hc 3 _ rfl
  have HB := Pl.hid ((Below.refl w.heap.size w).alloc (Nat.le_refl _) (.cells #[.int .i64 1, .string s, .int .i64 n, .slice la ln lc] 25))
  clear hc
  go_enter Tryz.func20, Tryz.ntmps20
  go_wp2_with fail
  go_quiet (fail)
  go_wp2_with fail
  refine (containsAny_walk s hz _).mono ?_
  rintro e w2 ⟨rfl, hb2⟩
  rw [hs]
  have HB2 := Pl.hid (HB.out.trans (((Mm.below_drewN (B := w.heap.size) _ _)).trans (hb2.mono (Nat.le_trans HB.out.size (Nat.le_refl _)))))
  obtain ⟨e0', e3'⟩ : w2.cell? ⟨w.heap.size, 0, none⟩ = _ ∧ w2.cell? ⟨w.heap.size, 3, none⟩ = _ := ⟨(hb2.cell (p := ⟨w.heap.size, 0, none⟩) (World.block_lt_of_cell? _ _ e0)).trans e0, (hb2.cell (p := ⟨w.heap.size, 3, none⟩) (World.block_lt_of_cell? _ _ e3)).trans e3⟩
  clear hb2 e0 e1 e2 e3
  go_wp2_with fail
  go_ret2
  exact ⟨rfl, HB2.out⟩
set_option maxHeartbeats 4000000 in
theorem looked_1_tnv (s : ByteArray) (n : Int) (la : Option Addr) (ln lc : Nat) (w : World) (hz : s.size < 4294967281) (hs : Pl.noEnd (Pl.L s) = true) (hn : (n == 0) = false) :
    Calls Tryz.prog 20 #[.agg #[.int .i64 1, .string s, .int .i64 n, .slice la ln lc]] w fun e w' => e = .returned (.tuple #[.int .i64 0, .bool false]) ∧ Below w.heap.size w w' := by
  have hc : ∀ i u, (#[.int .i64 1, .string s, .int .i64 n, .slice la ln lc] : Array Value)[i]? = some u → (w.alloc (.cells #[.int .i64 1, .string s, .int .i64 n, .slice la ln lc] 25)).cell? ⟨w.heap.size, i, none⟩ = some u := fun i u h => by rw [World.cell?_alloc_mark]; exact h
  have e0 := hc 0 _ rfl
  have e1 := hc 1 _ rfl
  have e2 := hc 2 _ rfl
  have e3 := hc 3 _ rfl
  have HB := Pl.hid ((Below.refl w.heap.size w).alloc (Nat.le_refl _) (.cells #[.int .i64 1, .string s, .int .i64 n, .slice la ln lc] 25))
  clear hc
  go_enter Tryz.func20, Tryz.ntmps20
  go_wp2_with fail
  go_quiet (fail)
  go_wp2_with fail
  refine (containsAny_walk s hz _).mono ?_
  rintro e w2 ⟨rfl, hb2⟩
  rw [hs]
  have HB2 := Pl.hid (HB.out.trans (((Mm.below_drewN (B := w.heap.size) _ _)).trans (hb2.mono (Nat.le_trans HB.out.size (Nat.le_refl _)))))
  obtain ⟨e0', e3'⟩ : w2.cell? ⟨w.heap.size, 0, none⟩ = _ ∧ w2.cell? ⟨w.heap.size, 3, none⟩ = _ := ⟨(hb2.cell (p := ⟨w.heap.size, 0, none⟩) (World.block_lt_of_cell? _ _ e0)).trans e0, (hb2.cell (p := ⟨w.heap.size, 3, none⟩) (World.block_lt_of_cell? _ _ e3)).trans e3⟩
  clear hb2 e0 e1 e2 e3
  go_wp2_with fail
  go_ret2
  exact ⟨rfl, HB2.out⟩
set_option maxHeartbeats 4000000 in
theorem looked_1_tzn (s : ByteArray) (n : Int) (la : Option Addr) (ln lc : Nat) (w : World) (hz : s.size < 4294967281) (hs : Pl.noEnd (Pl.L s) = true) (hn : n = 0) (hl : ((ln : Int) == 0) = false) :
    Calls Tryz.prog 20 #[.agg #[.int .i64 1, .string s, .int .i64 n, .slice la ln lc]] w fun e w' => e = .returned (.tuple #[.int .i64 0, .bool false]) ∧ Below w.heap.size w w' := by
  subst hn
  have hc : ∀ i u, (#[.int .i64 1, .string s, .int .i64 0, .slice la ln lc] : Array Value)[i]? = some u → (w.alloc (.cells #[.int .i64 1, .string s, .int .i64 0, .slice la ln lc] 25)).cell? ⟨w.heap.size, i, none⟩ = some u := fun i u h => by rw [World.cell?_alloc_mark]; exact h
  have e0 := hc 0 _ rfl
  have e1 := hc 1 _ rfl
  have e2 := hc 2 _ rfl
  have e3 := hc 3 _ rfl
  have HB := Pl.hid ((Below.refl w.heap.size w).alloc (Nat.le_refl _) (.cells #[.int .i64 1, .string s, .int .i64 0, .slice la ln lc] 25))
  clear hc
  go_enter Tryz.func20, Tryz.ntmps20
  go_wp2_with fail
  go_quiet (fail)
  go_wp2_with fail
  refine (containsAny_walk s hz _).mono ?_
  rintro e w2 ⟨rfl, hb2⟩
  rw [hs]
  have HB2 := Pl.hid (HB.out.trans (((Mm.below_drewN (B := w.heap.size) _ _)).trans (hb2.mono (Nat.le_trans HB.out.size (Nat.le_refl _)))))
  obtain ⟨e0', e3'⟩ : w2.cell? ⟨w.heap.size, 0, none⟩ = _ ∧ w2.cell? ⟨w.heap.size, 3, none⟩ = _ := ⟨(hb2.cell (p := ⟨w.heap.size, 0, none⟩) (World.block_lt_of_cell? _ _ e0)).trans e0, (hb2.cell (p := ⟨w.heap.size, 3, none⟩) (World.block_lt_of_cell? _ _ e3)).trans e3⟩
  clear hb2 e0 e1 e2 e3
  go_wp2_with fail
  go_ret2
  exact ⟨rfl, HB2.out⟩
set_option maxHeartbeats 4000000 in
theorem looked_1_tzz (s : ByteArray) (n : Int) (la : Option Addr) (ln lc : Nat) (w : World) (hz : s.size < 4294967281) (hs : Pl.noEnd (Pl.L s) = true) (hn : n = 0) (hl : ln = 0) :
    Calls Tryz.prog 20 #[.agg #[.int .i64 1, .string s, .int .i64 n, .slice la ln lc]] w fun e w' => e = .returned (.tuple #[.int .i64 0, .bool true]) ∧ Below w.heap.size w w' := by
  subst hn
  subst hl
  have hc : ∀ i u, (#[.int .i64 1, .string s, .int .i64 0, .slice la 0 lc] : Array Value)[i]? = some u → (w.alloc (.cells #[.int .i64 1, .string s, .int .i64 0, .slice la 0 lc] 25)).cell? ⟨w.heap.size, i, none⟩ = some u := fun i u h => by rw [World.cell?_alloc_mark]; exact h
  have e0 := hc 0 _ rfl
  have e1 := hc 1 _ rfl
  have e2 := hc 2 _ rfl
  have e3 := hc 3 _ rfl
  have HB := Pl.hid ((Below.refl w.heap.size w).alloc (Nat.le_refl _) (.cells #[.int .i64 1, .string s, .int .i64 0, .slice la 0 lc] 25))
  clear hc
  go_enter Tryz.func20, Tryz.ntmps20
  go_wp2_with fail
  go_quiet (fail)
  go_wp2_with fail
  refine (containsAny_walk s hz _).mono ?_
  rintro e w2 ⟨rfl, hb2⟩
  rw [hs]
  have HB2 := Pl.hid (HB.out.trans (((Mm.below_drewN (B := w.heap.size) _ _)).trans (hb2.mono (Nat.le_trans HB.out.size (Nat.le_refl _)))))
  obtain ⟨e0', e3'⟩ : w2.cell? ⟨w.heap.size, 0, none⟩ = _ ∧ w2.cell? ⟨w.heap.size, 3, none⟩ = _ := ⟨(hb2.cell (p := ⟨w.heap.size, 0, none⟩) (World.block_lt_of_cell? _ _ e0)).trans e0, (hb2.cell (p := ⟨w.heap.size, 3, none⟩) (World.block_lt_of_cell? _ _ e3)).trans e3⟩
  clear hb2 e0 e1 e2 e3
  go_wp2_with fail
  go_loop [58, 7] (fun iv dv => iv = .int .i64 0 ∧ dv = .int .i64 0) (fun _ _ => 0)
  case atStart => exact ⟨rfl, rfl⟩
  case round =>
    obtain ⟨rfl, rfl⟩ := hrel
    go_wp2_with fail
    go_ret2
    exact ⟨rfl, HB2.out⟩
set_option maxHeartbeats 4000000 in
theorem looked_2_fvv (s : ByteArray) (n : Int) (la : Option Addr) (ln lc : Nat) (w : World) (hz : s.size < 4294967281) (hs : Pl.noEnd (Pl.L s) = false) :
    Calls Tryz.prog 20 #[.agg #[.int .i64 2, .string s, .int .i64 n, .slice la ln lc]] w fun e w' => e = .returned (.tuple #[.int .i64 0, .bool false]) ∧ Below w.heap.size w w' := by
  have hc : ∀ i u, (#[.int .i64 2, .string s, .int .i64 n, .slice la ln lc] : Array Value)[i]? = some u → (w.alloc (.cells #[.int .i64 2, .string s, .int .i64 n, .slice la ln lc] 25)).cell? ⟨w.heap.size, i, none⟩ = some u := fun i u h => by rw [World.cell?_alloc_mark]; exact h
  have e0 := hc 0 _ rfl
  have e1 := hc 1 _ rfl
  have e2 := hc 2 _ rfl
  have e3 := hc 3 _ rfl
  have HB := Pl.hid ((Below.refl w.heap.size w).alloc (Nat.le_refl _) (.cells #[.int .i64 2, .string s, .int .i64 n, .slice la ln lc] 25))
  clear hc
  go_enter Tryz.func20, Tryz.ntmps20
  go_wp2_with fail
  go_quiet (fail)
  go_wp2_with fail
  refine (containsAny_walk s hz _).mono ?_
  rintro e w2 ⟨rfl, hb2⟩
  rw [hs]
  have HB2 := Pl.hid (HB.out.trans (((Mm.below_drewN (B := w.heap.size) _ _)).trans (hb2.mono (Nat.le_trans HB.out.size (Nat.le_refl _)))))
  obtain ⟨e0', e3'⟩ : w2.cell? ⟨w.heap.size, 0, none⟩ = _ ∧ w2.cell? ⟨w.heap.size, 3, none⟩ = _ := ⟨(hb2.cell (p := ⟨w.heap.size, 0, none⟩) (World.block_lt_of_cell? _ _ e0)).trans e0, (hb2.cell (p := ⟨w.heap.size, 3, none⟩) (World.block_lt_of_cell? _ _ e3)).trans e3⟩
  clear hb2 e0 e1 e2 e3
  go_wp2_with fail
  go_ret2
  exact ⟨rfl, HB2.out⟩
set_option maxHeartbeats 4000000 in
theorem looked_2_tnv (s : ByteArray) (n : Int) (la : Option Addr) (ln lc : Nat) (w : World) (hz : s.size < 4294967281) (hs : Pl.noEnd (Pl.L s) = true) (hn : (n == 0) = false) :
    Calls Tryz.prog 20 #[.agg #[.int .i64 2, .string s, .int .i64 n, .slice la ln lc]] w fun e w' => e = .returned (.tuple #[.int .i64 0, .bool false]) ∧ Below w.heap.size w w' := by
  have hc : ∀ i u, (#[.int .i64 2, .string s, .int .i64 n, .slice la ln lc] : Array Value)[i]? = some u → (w.alloc (.cells #[.int .i64 2, .string s, .int .i64 n, .slice la ln lc] 25)).cell? ⟨w.heap.size, i, none⟩ = some u := fun i u h => by rw [World.cell?_alloc_mark]; exact h
  have e0 := hc 0 _ rfl
  have e1 := hc 1 _ rfl
  have e2 := hc 2 _ rfl
  have e3 := hc 3 _ rfl
  have HB := Pl.hid ((Below.refl w.heap.size w).alloc (Nat.le_refl _) (.cells #[.int .i64 2, .string s, .int .i64 n, .slice la ln lc] 25))
  clear hc
  go_enter Tryz.func20, Tryz.ntmps20
  go_wp2_with fail
  go_quiet (fail)
  go_wp2_with fail
  refine (containsAny_walk s hz _).mono ?_
  rintro e w2 ⟨rfl, hb2⟩
  rw [hs]
  have HB2 := Pl.hid (HB.out.trans (((Mm.below_drewN (B := w.heap.size) _ _)).trans (hb2.mono (Nat.le_trans HB.out.size (Nat.le_refl _)))))
  obtain ⟨e0', e3'⟩ : w2.cell? ⟨w.heap.size, 0, none⟩ = _ ∧ w2.cell? ⟨w.heap.size, 3, none⟩ = _ := ⟨(hb2.cell (p := ⟨w.heap.size, 0, none⟩) (World.block_lt_of_cell? _ _ e0)).trans e0, (hb2.cell (p := ⟨w.heap.size, 3, none⟩) (World.block_lt_of_cell? _ _ e3)).trans e3⟩
  clear hb2 e0 e1 e2 e3
  go_wp2_with fail
  go_ret2
  exact ⟨rfl, HB2.out⟩
set_option maxHeartbeats 4000000 in
theorem looked_2_tzn (s : ByteArray) (n : Int) (la : Option Addr) (ln lc : Nat) (w : World) (hz : s.size < 4294967281) (hs : Pl.noEnd (Pl.L s) = true) (hn : n = 0) (hl : ((ln : Int) == 0) = false) :
    Calls Tryz.prog 20 #[.agg #[.int .i64 2, .string s, .int .i64 n, .slice la ln lc]] w fun e w' => e = .returned (.tuple #[.int .i64 0, .bool false]) ∧ Below w.heap.size w w' := by
  subst hn
  have hc : ∀ i u, (#[.int .i64 2, .string s, .int .i64 0, .slice la ln lc] : Array Value)[i]? = some u → (w.alloc (.cells #[.int .i64 2, .string s, .int .i64 0, .slice la ln lc] 25)).cell? ⟨w.heap.size, i, none⟩ = some u := fun i u h => by rw [World.cell?_alloc_mark]; exact h
  have e0 := hc 0 _ rfl
  have e1 := hc 1 _ rfl
  have e2 := hc 2 _ rfl
  have e3 := hc 3 _ rfl
  have HB := Pl.hid ((Below.refl w.heap.size w).alloc (Nat.le_refl _) (.cells #[.int .i64 2, .string s, .int .i64 0, .slice la ln lc] 25))
  clear hc
  go_enter Tryz.func20, Tryz.ntmps20
  go_wp2_with fail
  go_quiet (fail)
  go_wp2_with fail
  refine (containsAny_walk s hz _).mono ?_
  rintro e w2 ⟨rfl, hb2⟩
  rw [hs]
  have HB2 := Pl.hid (HB.out.trans (((Mm.below_drewN (B := w.heap.size) _ _)).trans (hb2.mono (Nat.le_trans HB.out.size (Nat.le_refl _)))))
  obtain ⟨e0', e3'⟩ : w2.cell? ⟨w.heap.size, 0, none⟩ = _ ∧ w2.cell? ⟨w.heap.size, 3, none⟩ = _ := ⟨(hb2.cell (p := ⟨w.heap.size, 0, none⟩) (World.block_lt_of_cell? _ _ e0)).trans e0, (hb2.cell (p := ⟨w.heap.size, 3, none⟩) (World.block_lt_of_cell? _ _ e3)).trans e3⟩
  clear hb2 e0 e1 e2 e3
  go_wp2_with fail
  go_ret2
  exact ⟨rfl, HB2.out⟩
set_option maxHeartbeats 4000000 in
theorem looked_2_tzz (s : ByteArray) (n : Int) (la : Option Addr) (ln lc : Nat) (w : World) (hz : s.size < 4294967281) (hs : Pl.noEnd (Pl.L s) = true) (hn : n = 0) (hl : ln = 0) :
    Calls Tryz.prog 20 #[.agg #[.int .i64 2, .string s, .int .i64 n, .slice la ln lc]] w fun e w' => e = .returned (.tuple #[.int .i64 0, .bool true]) ∧ Below w.heap.size w w' := by
  subst hn
  subst hl
  have hc : ∀ i u, (#[.int .i64 2, .string s, .int .i64 0, .slice la 0 lc] : Array Value)[i]? = some u → (w.alloc (.cells #[.int .i64 2, .string s, .int .i64 0, .slice la 0 lc] 25)).cell? ⟨w.heap.size, i, none⟩ = some u := fun i u h => by rw [World.cell?_alloc_mark]; exact h
  have e0 := hc 0 _ rfl
  have e1 := hc 1 _ rfl
  have e2 := hc 2 _ rfl
  have e3 := hc 3 _ rfl
  have HB := Pl.hid ((Below.refl w.heap.size w).alloc (Nat.le_refl _) (.cells #[.int .i64 2, .string s, .int .i64 0, .slice la 0 lc] 25))
  clear hc
  go_enter Tryz.func20, Tryz.ntmps20
  go_wp2_with fail
  go_quiet (fail)
  go_wp2_with fail
  refine (containsAny_walk s hz _).mono ?_
  rintro e w2 ⟨rfl, hb2⟩
  rw [hs]
  have HB2 := Pl.hid (HB.out.trans (((Mm.below_drewN (B := w.heap.size) _ _)).trans (hb2.mono (Nat.le_trans HB.out.size (Nat.le_refl _)))))
  obtain ⟨e0', e3'⟩ : w2.cell? ⟨w.heap.size, 0, none⟩ = _ ∧ w2.cell? ⟨w.heap.size, 3, none⟩ = _ := ⟨(hb2.cell (p := ⟨w.heap.size, 0, none⟩) (World.block_lt_of_cell? _ _ e0)).trans e0, (hb2.cell (p := ⟨w.heap.size, 3, none⟩) (World.block_lt_of_cell? _ _ e3)).trans e3⟩
  clear hb2 e0 e1 e2 e3
  go_wp2_with fail
  go_loop [58, 7] (fun iv dv => iv = .int .i64 0 ∧ dv = .int .i64 0) (fun _ _ => 0)
  case atStart => exact ⟨rfl, rfl⟩
  case round =>
    obtain ⟨rfl, rfl⟩ := hrel
    go_wp2_with fail
    go_ret2
    exact ⟨rfl, HB2.out⟩
set_option maxHeartbeats 4000000 in
theorem looked_3_nvv (s : ByteArray) (n : Int) (la : Option Addr) (ln lc : Nat) (w : World) (hs : s.toList.isEmpty = false) :
    Calls Tryz.prog 20 #[.agg #[.int .i64 3, .string s, .int .i64 n, .slice la ln lc]] w fun e w' => e = .returned (.tuple #[.int .i64 0, .bool false]) ∧ Below w.heap.size w w' := by
  have hc : ∀ i u, (#[.int .i64 3, .string s, .int .i64 n, .slice la ln lc] : Array Value)[i]? = some u → (w.alloc (.cells #[.int .i64 3, .string s, .int .i64 n, .slice la ln lc] 25)).cell? ⟨w.heap.size, i, none⟩ = some u := fun i u h => by rw [World.cell?_alloc_mark]; exact h
  have e0 := hc 0 _ rfl
  have e1 := hc 1 _ rfl
  have e2 := hc 2 _ rfl
  have e3 := hc 3 _ rfl
  have HB := Pl.hid ((Below.refl w.heap.size w).alloc (Nat.le_refl _) (.cells #[.int .i64 3, .string s, .int .i64 n, .slice la ln lc] 25))
  clear hc
  go_enter Tryz.func20, Tryz.ntmps20
  go_wp2_with fail
  go_quiet (fail)
  go_wp2_with fail
  go_ret2
  exact ⟨rfl, HB.out.trans (Mm.below_drewN _ _)⟩
set_option maxHeartbeats 4000000 in
theorem looked_3_evn (s : ByteArray) (n : Int) (la : Option Addr) (ln lc : Nat) (w : World) (hs : s = ⟨#[]⟩) (hl : ((ln : Int) == 0) = false) :
    Calls Tryz.prog 20 #[.agg #[.int .i64 3, .string s, .int .i64 n, .slice la ln lc]] w fun e w' => e = .returned (.tuple #[.int .i64 0, .bool false]) ∧ Below w.heap.size w w' := by
  subst hs
  have hc : ∀ i u, (#[.int .i64 3, .string ⟨#[]⟩, .int .i64 n, .slice la ln lc] : Array Value)[i]? = some u → (w.alloc (.cells #[.int .i64 3, .string ⟨#[]⟩, .int .i64 n, .slice la ln lc] 25)).cell? ⟨w.heap.size, i, none⟩ = some u := fun i u h => by rw [World.cell?_alloc_mark]; exact h
  have e0 := hc 0 _ rfl
  have e1 := hc 1 _ rfl
  have e2 := hc 2 _ rfl
  have e3 := hc 3 _ rfl
  have HB := Pl.hid ((Below.refl w.heap.size w).alloc (Nat.le_refl _) (.cells #[.int .i64 3, .string ⟨#[]⟩, .int .i64 n, .slice la ln lc] 25))
  clear hc
  go_enter Tryz.func20, Tryz.ntmps20
  go_wp2_with fail
  go_quiet (fail)
  go_wp2_with fail
  go_ret2
  exact ⟨rfl, HB.out.trans (Mm.below_drewN _ _)⟩
set_option maxHeartbeats 4000000 in
theorem looked_3_evz (s : ByteArray) (n : Int) (la : Option Addr) (ln lc : Nat) (w : World) (hs : s = ⟨#[]⟩) (hl : ln = 0) :
    Calls Tryz.prog 20 #[.agg #[.int .i64 3, .string s, .int .i64 n, .slice la ln lc]] w fun e w' => e = .returned (.tuple #[.int .i64 0, .bool true]) ∧ Below w.heap.size w w' := by
  subst hs
  subst hl
  have hc : ∀ i u, (#[.int .i64 3, .string ⟨#[]⟩, .int .i64 n, .slice la 0 lc] : Array Value)[i]? = some u → (w.alloc (.cells #[.int .i64 3, .string ⟨#[]⟩, .int .i64 n, .slice la 0 lc] 25)).cell? ⟨w.heap.size, i, none⟩ = some u := fun i u h => by rw [World.cell?_alloc_mark]; exact h
  have e0 := hc 0 _ rfl
  have e1 := hc 1 _ rfl
  have e2 := hc 2 _ rfl
  have e3 := hc 3 _ rfl
  have HB := Pl.hid ((Below.refl w.heap.size w).alloc (Nat.le_refl _) (.cells #[.int .i64 3, .string ⟨#[]⟩, .int .i64 n, .slice la 0 lc] 25))
  clear hc
  go_enter Tryz.func20, Tryz.ntmps20
  go_wp2_with fail
  go_quiet (fail)
  go_wp2_with fail
  go_loop [58, 7] (fun iv dv => iv = .int .i64 0 ∧ dv = .int .i64 0) (fun _ _ => 0)
  case atStart => exact ⟨rfl, rfl⟩
  case round =>
    obtain ⟨rfl, rfl⟩ := hrel
    go_wp2_with fail
    go_ret2
    exact ⟨rfl, HB.out.trans (Mm.below_drewN _ _)⟩
set_option maxHeartbeats 4000000 in
theorem looked_4_vnv (s : ByteArray) (n : Int) (la : Option Addr) (ln lc : Nat) (w : World) (hn : (n == 0) = false) :
    Calls Tryz.prog 20 #[.agg #[.int .i64 4, .string s, .int .i64 n, .slice la ln lc]] w fun e w' => e = .returned (.tuple #[.int .i64 0, .bool false]) ∧ Below w.heap.size w w' := by
  have hc : ∀ i u, (#[.int .i64 4, .string s, .int .i64 n, .slice la ln lc] : Array Value)[i]? = some u → (w.alloc (.cells #[.int .i64 4, .string s, .int .i64 n, .slice la ln lc] 25)).cell? ⟨w.heap.size, i, none⟩ = some u := fun i u h => by rw [World.cell?_alloc_mark]; exact h
  have e0 := hc 0 _ rfl
  have e1 := hc 1 _ rfl
  have e2 := hc 2 _ rfl
  have e3 := hc 3 _ rfl
  have HB := Pl.hid ((Below.refl w.heap.size w).alloc (Nat.le_refl _) (.cells #[.int .i64 4, .string s, .int .i64 n, .slice la ln lc] 25))
  clear hc
  go_enter Tryz.func20, Tryz.ntmps20
  go_wp2_with fail
  go_quiet (fail)
  go_wp2_with fail
  go_ret2
  exact ⟨rfl, HB.out.trans (Mm.below_drewN _ _)⟩
set_option maxHeartbeats 4000000 in
theorem looked_4_vzn (s : ByteArray) (n : Int) (la : Option Addr) (ln lc : Nat) (w : World) (hn : n = 0) (hl : ((ln : Int) == 0) = false) :
    Calls Tryz.prog 20 #[.agg #[.int .i64 4, .string s, .int .i64 n, .slice la ln lc]] w fun e w' => e = .returned (.tuple #[.int .i64 0, .bool false]) ∧ Below w.heap.size w w' := by
  subst hn
  have hc : ∀ i u, (#[.int .i64 4, .string s, .int .i64 0, .slice la ln lc] : Array Value)[i]? = some u → (w.alloc (.cells #[.int .i64 4, .string s, .int .i64 0, .slice la ln lc] 25)).cell? ⟨w.heap.size, i, none⟩ = some u := fun i u h => by rw [World.cell?_alloc_mark]; exact h
  have e0 := hc 0 _ rfl
  have e1 := hc 1 _ rfl
  have e2 := hc 2 _ rfl
  have e3 := hc 3 _ rfl
  have HB := Pl.hid ((Below.refl w.heap.size w).alloc (Nat.le_refl _) (.cells #[.int .i64 4, .string s, .int .i64 0, .slice la ln lc] 25))
  clear hc
  go_enter Tryz.func20, Tryz.ntmps20
  go_wp2_with fail
  go_quiet (fail)
  go_wp2_with fail
  go_ret2
  exact ⟨rfl, HB.out.trans (Mm.below_drewN _ _)⟩
set_option maxHeartbeats 4000000 in
theorem looked_4_vzz (s : ByteArray) (n : Int) (la : Option Addr) (ln lc : Nat) (w : World) (hn : n = 0) (hl : ln = 0) :
    Calls Tryz.prog 20 #[.agg #[.int .i64 4, .string s, .int .i64 n, .slice la ln lc]] w fun e w' => e = .returned (.tuple #[.int .i64 0, .bool true]) ∧ Below w.heap.size w w' := by
  subst hn
  subst hl
  have hc : ∀ i u, (#[.int .i64 4, .string s, .int .i64 0, .slice la 0 lc] : Array Value)[i]? = some u → (w.alloc (.cells #[.int .i64 4, .string s, .int .i64 0, .slice la 0 lc] 25)).cell? ⟨w.heap.size, i, none⟩ = some u := fun i u h => by rw [World.cell?_alloc_mark]; exact h
  have e0 := hc 0 _ rfl
  have e1 := hc 1 _ rfl
  have e2 := hc 2 _ rfl
  have e3 := hc 3 _ rfl
  have HB := Pl.hid ((Below.refl w.heap.size w).alloc (Nat.le_refl _) (.cells #[.int .i64 4, .string s, .int .i64 0, .slice la 0 lc] 25))
  clear hc
  go_enter Tryz.func20, Tryz.ntmps20
  go_wp2_with fail
  go_quiet (fail)
  go_wp2_with fail
  go_loop [58, 7] (fun iv dv => iv = .int .i64 0 ∧ dv = .int .i64 0) (fun _ _ => 0)
  case atStart => exact ⟨rfl, rfl⟩
  case round =>
    obtain ⟨rfl, rfl⟩ := hrel
    go_wp2_with fail
    go_ret2
    exact ⟨rfl, HB.out.trans (Mm.below_drewN _ _)⟩
set_option maxHeartbeats 4000000 in
theorem looked_5_nvv (s : ByteArray) (n : Int) (la : Option Addr) (ln lc : Nat) (w : World) (hs : s.toList.isEmpty = false) :
    Calls Tryz.prog 20 #[.agg #[.int .i64 5, .string s, .int .i64 n, .slice la ln lc]] w fun e w' => e = .returned (.tuple #[.int .i64 0, .bool false]) ∧ Below w.heap.size w w' := by
  have hc : ∀ i u, (#[.int .i64 5, .string s, .int .i64 n, .slice la ln lc] : Array Value)[i]? = some u → (w.alloc (.cells #[.int .i64 5, .string s, .int .i64 n, .slice la ln lc] 25)).cell? ⟨w.heap.size, i, none⟩ = some u := fun i u h => by rw [World.cell?_alloc_mark]; exact h
  have e0 := hc 0 _ rfl
  have e1 := hc 1 _ rfl
  have e2 := hc 2 _ rfl
  have e3 := hc 3 _ rfl
  have HB := Pl.hid ((Below.refl w.heap.size w).alloc (Nat.le_refl _) (.cells #[.int .i64 5, .string s, .int .i64 n, .slice la ln lc] 25))
  clear hc
  go_enter Tryz.func20, Tryz.ntmps20
  go_wp2_with fail
  go_quiet (fail)
  go_wp2_with fail
  go_ret2
  exact ⟨rfl, HB.out.trans (Mm.below_drewN _ _)⟩
set_option maxHeartbeats 4000000 in
theorem looked_5_env (s : ByteArray) (n : Int) (la : Option Addr) (ln lc : Nat) (w : World) (hs : s = ⟨#[]⟩) (hn : (n == 0) = false) :
    Calls Tryz.prog 20 #[.agg #[.int .i64 5, .string s, .int .i64 n, .slice la ln lc]] w fun e w' => e = .returned (.tuple #[.int .i64 0, .bool false]) ∧ Below w.heap.size w w' := by
  subst hs
  have hc : ∀ i u, (#[.int .i64 5, .string ⟨#[]⟩, .int .i64 n, .slice la ln lc] : Array Value)[i]? = some u → (w.alloc (.cells #[.int .i64 5, .string ⟨#[]⟩, .int .i64 n, .slice la ln lc] 25)).cell? ⟨w.heap.size, i, none⟩ = some u := fun i u h => by rw [World.cell?_alloc_mark]; exact h
  have e0 := hc 0 _ rfl
  have e1 := hc 1 _ rfl
  have e2 := hc 2 _ rfl
  have e3 := hc 3 _ rfl
  have HB := Pl.hid ((Below.refl w.heap.size w).alloc (Nat.le_refl _) (.cells #[.int .i64 5, .string ⟨#[]⟩, .int .i64 n, .slice la ln lc] 25))
  clear hc
  go_enter Tryz.func20, Tryz.ntmps20
  go_wp2_with fail
  go_quiet (fail)
  go_wp2_with fail
  go_ret2
  exact ⟨rfl, HB.out.trans (Mm.below_drewN _ _)⟩
set_option maxHeartbeats 4000000 in
theorem looked_5_ezn (s : ByteArray) (n : Int) (la : Option Addr) (ln lc : Nat) (w : World) (hs : s = ⟨#[]⟩) (hn : n = 0) (hl : ((ln : Int) == 0) = false) :
    Calls Tryz.prog 20 #[.agg #[.int .i64 5, .string s, .int .i64 n, .slice la ln lc]] w fun e w' => e = .returned (.tuple #[.int .i64 0, .bool false]) ∧ Below w.heap.size w w' := by
  subst hs
  subst hn
  have hc : ∀ i u, (#[.int .i64 5, .string ⟨#[]⟩, .int .i64 0, .slice la ln lc] : Array Value)[i]? = some u → (w.alloc (.cells #[.int .i64 5, .string ⟨#[]⟩, .int .i64 0, .slice la ln lc] 25)).cell? ⟨w.heap.size, i, none⟩ = some u := fun i u h => by rw [World.cell?_alloc_mark]; exact h
  have e0 := hc 0 _ rfl
  have e1 := hc 1 _ rfl
  have e2 := hc 2 _ rfl
  have e3 := hc 3 _ rfl
  have HB := Pl.hid ((Below.refl w.heap.size w).alloc (Nat.le_refl _) (.cells #[.int .i64 5, .string ⟨#[]⟩, .int .i64 0, .slice la ln lc] 25))
  clear hc
  go_enter Tryz.func20, Tryz.ntmps20
  go_wp2_with fail
  go_quiet (fail)
  go_wp2_with fail
  go_ret2
  exact ⟨rfl, HB.out.trans (Mm.below_drewN _ _)⟩
set_option maxHeartbeats 4000000 in
theorem looked_5_ezz (s : ByteArray) (n : Int) (la : Option Addr) (ln lc : Nat) (w : World) (hs : s = ⟨#[]⟩) (hn : n = 0) (hl : ln = 0) :
    Calls Tryz.prog 20 #[.agg #[.int .i64 5, .string s, .int .i64 n, .slice la ln lc]] w fun e w' => e = .returned (.tuple #[.int .i64 0, .bool true]) ∧ Below w.heap.size w w' := by
  subst hs
  subst hn
  subst hl
  have hc : ∀ i u, (#[.int .i64 5, .string ⟨#[]⟩, .int .i64 0, .slice la 0 lc] : Array Value)[i]? = some u → (w.alloc (.cells #[.int .i64 5, .string ⟨#[]⟩, .int .i64 0, .slice la 0 lc] 25)).cell? ⟨w.heap.size, i, none⟩ = some u := fun i u h => by rw [World.cell?_alloc_mark]; exact h
  have e0 := hc 0 _ rfl
  have e1 := hc 1 _ rfl
  have e2 := hc 2 _ rfl
  have e3 := hc 3 _ rfl
  have HB := Pl.hid ((Below.refl w.heap.size w).alloc (Nat.le_refl _) (.cells #[.int .i64 5, .string ⟨#[]⟩, .int .i64 0, .slice la 0 lc] 25))
  clear hc
  go_enter Tryz.func20, Tryz.ntmps20
  go_wp2_with fail
  go_quiet (fail)
  go_wp2_with fail
  go_loop [58, 7] (fun iv dv => iv = .int .i64 0 ∧ dv = .int .i64 0) (fun _ _ => 0)
  case atStart => exact ⟨rfl, rfl⟩
  case round =>
    obtain ⟨rfl, rfl⟩ := hrel
    go_wp2_with fail
    go_ret2
    exact ⟨rfl, HB.out.trans (Mm.below_drewN _ _)⟩
set_option maxHeartbeats 4000000 in
theorem looked_7_nvv (s : ByteArray) (n : Int) (la : Option Addr) (ln lc : Nat) (w : World) (hs : s.toList.isEmpty = false) :
    Calls Tryz.prog 20 #[.agg #[.int .i64 7, .string s, .int .i64 n, .slice la ln lc]] w fun e w' => e = .returned (.tuple #[.int .i64 0, .bool false]) ∧ Below w.heap.size w w' := by
  have hc : ∀ i u, (#[.int .i64 7, .string s, .int .i64 n, .slice la ln lc] : Array Value)[i]? = some u → (w.alloc (.cells #[.int .i64 7, .string s, .int .i64 n, .slice la ln lc] 25)).cell? ⟨w.heap.size, i, none⟩ = some u := fun i u h => by rw [World.cell?_alloc_mark]; exact h
  have e0 := hc 0 _ rfl
  have e1 := hc 1 _ rfl
  have e2 := hc 2 _ rfl
  have e3 := hc 3 _ rfl
  have HB := Pl.hid ((Below.refl w.heap.size w).alloc (Nat.le_refl _) (.cells #[.int .i64 7, .string s, .int .i64 n, .slice la ln lc] 25))
  clear hc
  go_enter Tryz.func20, Tryz.ntmps20
  go_wp2_with fail
  go_quiet (fail)
  go_wp2_with fail
  go_ret2
  exact ⟨rfl, HB.out.trans (Mm.below_drewN _ _)⟩
set_option maxHeartbeats 4000000 in
theorem looked_7_env (s : ByteArray) (n : Int) (la : Option Addr) (ln lc : Nat) (w : World) (hs : s = ⟨#[]⟩) (hn : (n == 0) = false) :
    Calls Tryz.prog 20 #[.agg #[.int .i64 7, .string s, .int .i64 n, .slice la ln lc]] w fun e w' => e = .returned (.tuple #[.int .i64 0, .bool false]) ∧ Below w.heap.size w w' := by
  subst hs
  have hc : ∀ i u, (#[.int .i64 7, .string ⟨#[]⟩, .int .i64 n, .slice la ln lc] : Array Value)[i]? = some u → (w.alloc (.cells #[.int .i64 7, .string ⟨#[]⟩, .int .i64 n, .slice la ln lc] 25)).cell? ⟨w.heap.size, i, none⟩ = some u := fun i u h => by rw [World.cell?_alloc_mark]; exact h
  have e0 := hc 0 _ rfl
  have e1 := hc 1 _ rfl
  have e2 := hc 2 _ rfl
  have e3 := hc 3 _ rfl
  have HB := Pl.hid ((Below.refl w.heap.size w).alloc (Nat.le_refl _) (.cells #[.int .i64 7, .string ⟨#[]⟩, .int .i64 n, .slice la ln lc] 25))
  clear hc
  go_enter Tryz.func20, Tryz.ntmps20
  go_wp2_with fail
  go_quiet (fail)
  go_wp2_with fail
  go_ret2
  exact ⟨rfl, HB.out.trans (Mm.below_drewN _ _)⟩
set_option maxHeartbeats 4000000 in
theorem looked_7_ezn (s : ByteArray) (n : Int) (la : Option Addr) (ln lc : Nat) (w : World) (hs : s = ⟨#[]⟩) (hn : n = 0) (hl : ((ln : Int) == 0) = false) :
    Calls Tryz.prog 20 #[.agg #[.int .i64 7, .string s, .int .i64 n, .slice la ln lc]] w fun e w' => e = .returned (.tuple #[.int .i64 0, .bool false]) ∧ Below w.heap.size w w' := by
  subst hs
  subst hn
  have hc : ∀ i u, (#[.int .i64 7, .string ⟨#[]⟩, .int .i64 0, .slice la ln lc] : Array Value)[i]? = some u → (w.alloc (.cells #[.int .i64 7, .string ⟨#[]⟩, .int .i64 0, .slice la ln lc] 25)).cell? ⟨w.heap.size, i, none⟩ = some u := fun i u h => by rw [World.cell?_alloc_mark]; exact h
  have e0 := hc 0 _ rfl
  have e1 := hc 1 _ rfl
  have e2 := hc 2 _ rfl
  have e3 := hc 3 _ rfl
  have HB := Pl.hid ((Below.refl w.heap.size w).alloc (Nat.le_refl _) (.cells #[.int .i64 7, .string ⟨#[]⟩, .int .i64 0, .slice la ln lc] 25))
  clear hc
  go_enter Tryz.func20, Tryz.ntmps20
  go_wp2_with fail
  go_quiet (fail)
  go_wp2_with fail
  go_ret2
  exact ⟨rfl, HB.out.trans (Mm.below_drewN _ _)⟩
set_option maxHeartbeats 4000000 in
theorem looked_7_ezz (s : ByteArray) (n : Int) (la : Option Addr) (ln lc : Nat) (w : World) (hs : s = ⟨#[]⟩) (hn : n = 0) (hl : ln = 0) :
    Calls Tryz.prog 20 #[.agg #[.int .i64 7, .string s, .int .i64 n, .slice la ln lc]] w fun e w' => e = .returned (.tuple #[.int .i64 0, .bool true]) ∧ Below w.heap.size w w' := by
  subst hs
  subst hn
  subst hl
  have hc : ∀ i u, (#[.int .i64 7, .string ⟨#[]⟩, .int .i64 0, .slice la 0 lc] : Array Value)[i]? = some u → (w.alloc (.cells #[.int .i64 7, .string ⟨#[]⟩, .int .i64 0, .slice la 0 lc] 25)).cell? ⟨w.heap.size, i, none⟩ = some u := fun i u h => by rw [World.cell?_alloc_mark]; exact h
  have e0 := hc 0 _ rfl
  have e1 := hc 1 _ rfl
  have e2 := hc 2 _ rfl
  have e3 := hc 3 _ rfl
  have HB := Pl.hid ((Below.refl w.heap.size w).alloc (Nat.le_refl _) (.cells #[.int .i64 7, .string ⟨#[]⟩, .int .i64 0, .slice la 0 lc] 25))
  clear hc
  go_enter Tryz.func20, Tryz.ntmps20
  go_wp2_with fail
  go_quiet (fail)
  go_wp2_with fail
  go_loop [58, 7] (fun iv dv => iv = .int .i64 0 ∧ dv = .int .i64 0) (fun _ _ => 0)
  case atStart => exact ⟨rfl, rfl⟩
  case round =>
    obtain ⟨rfl, rfl⟩ := hrel
    go_wp2_with fail
    go_ret2
    exact ⟨rfl, HB.out.trans (Mm.below_drewN _ _)⟩
set_option maxHeartbeats 4000000 in
theorem looked_6_nvv (s : ByteArray) (n : Int) (la : Option Addr) (ln lc : Nat) (w : World) (hs : s.toList.isEmpty = false) :
    Calls Tryz.prog 20 #[.agg #[.int .i64 6, .string s, .int .i64 n, .slice la ln lc]] w fun e w' => e = .returned (.tuple #[.int .i64 0, .bool false]) ∧ Below w.heap.size w w' := by
  have hc : ∀ i u, (#[.int .i64 6, .string s, .int .i64 n, .slice la ln lc] : Array Value)[i]? = some u → (w.alloc (.cells #[.int .i64 6, .string s, .int .i64 n, .slice la ln lc] 25)).cell? ⟨w.heap.size, i, none⟩ = some u := fun i u h => by rw [World.cell?_alloc_mark]; exact h
  have e0 := hc 0 _ rfl
  have e1 := hc 1 _ rfl
  have e2 := hc 2 _ rfl
  have e3 := hc 3 _ rfl
  have HB := Pl.hid ((Below.refl w.heap.size w).alloc (Nat.le_refl _) (.cells #[.int .i64 6, .string s, .int .i64 n, .slice la ln lc] 25))
  clear hc
  go_enter Tryz.func20, Tryz.ntmps20
  go_wp2_with fail
  go_quiet (fail)
  go_wp2_with fail
  go_ret2
  exact ⟨rfl, HB.out.trans (Mm.below_drewN _ _)⟩
set_option maxHeartbeats 4000000 in
theorem looked_6_env (s : ByteArray) (n : Int) (la : Option Addr) (ln lc : Nat) (w : World) (hs : s = ⟨#[]⟩) (hn : (n == 0) = false) :
    Calls Tryz.prog 20 #[.agg #[.int .i64 6, .string s, .int .i64 n, .slice la ln lc]] w fun e w' => e = .returned (.tuple #[.int .i64 0, .bool false]) ∧ Below w.heap.size w w' := by
  subst hs
  have hc : ∀ i u, (#[.int .i64 6, .string ⟨#[]⟩, .int .i64 n, .slice la ln lc] : Array Value)[i]? = some u → (w.alloc (.cells #[.int .i64 6, .string ⟨#[]⟩, .int .i64 n, .slice la ln lc] 25)).cell? ⟨w.heap.size, i, none⟩ = some u := fun i u h => by rw [World.cell?_alloc_mark]; exact h
  have e0 := hc 0 _ rfl
  have e1 := hc 1 _ rfl
  have e2 := hc 2 _ rfl
  have e3 := hc 3 _ rfl
  have HB := Pl.hid ((Below.refl w.heap.size w).alloc (Nat.le_refl _) (.cells #[.int .i64 6, .string ⟨#[]⟩, .int .i64 n, .slice la ln lc] 25))
  clear hc
  go_enter Tryz.func20, Tryz.ntmps20
  go_wp2_with fail
  go_quiet (fail)
  go_wp2_with fail
  go_ret2
  exact ⟨rfl, HB.out.trans (Mm.below_drewN _ _)⟩

set_option maxHeartbeats 4000000 in
theorem looked_lo (k : Int) (hk : k < 1) (s : ByteArray) (n : Int) (la : Option Addr) (ln lc : Nat) (w : World) :
    Calls Tryz.prog 20 #[.agg #[.int .i64 k, .string s, .int .i64 n, .slice la ln lc]] w fun e w' => e = .returned (.tuple #[.int .i64 0, .bool false]) ∧ Below w.heap.size w w' := by
  have hc : ∀ i u, (#[.int .i64 k, .string s, .int .i64 n, .slice la ln lc] : Array Value)[i]? = some u → (w.alloc (.cells #[.int .i64 k, .string s, .int .i64 n, .slice la ln lc] 25)).cell? ⟨w.heap.size, i, none⟩ = some u := fun i u h => by rw [World.cell?_alloc_mark]; exact h
  have e0 := hc 0 _ rfl
  have e1 := hc 1 _ rfl
  have e2 := hc 2 _ rfl
  have e3 := hc 3 _ rfl
  have HB := Pl.hid ((Below.refl w.heap.size w).alloc (Nat.le_refl _) (.cells #[.int .i64 k, .string s, .int .i64 n, .slice la ln lc] 25))
  clear hc
  go_enter Tryz.func20, Tryz.ntmps20
  go_wp2_with fail
  go_ret2
  exact ⟨rfl, HB.out⟩
set_option maxHeartbeats 4000000 in
theorem looked_hi (k : Int) (hk : 7 < k) (s : ByteArray) (n : Int) (la : Option Addr) (ln lc : Nat) (w : World) :
    Calls Tryz.prog 20 #[.agg #[.int .i64 k, .string s, .int .i64 n, .slice la ln lc]] w fun e w' => e = .returned (.tuple #[.int .i64 0, .bool false]) ∧ Below w.heap.size w w' := by
  have hk1 : decide (k < 1) = false := decide_eq_false (by omega)
  have hc : ∀ i u, (#[.int .i64 k, .string s, .int .i64 n, .slice la ln lc] : Array Value)[i]? = some u → (w.alloc (.cells #[.int .i64 k, .string s, .int .i64 n, .slice la ln lc] 25)).cell? ⟨w.heap.size, i, none⟩ = some u := fun i u h => by rw [World.cell?_alloc_mark]; exact h
  have e0 := hc 0 _ rfl
  have e1 := hc 1 _ rfl
  have e2 := hc 2 _ rfl
  have e3 := hc 3 _ rfl
  have HB := Pl.hid ((Below.refl w.heap.size w).alloc (Nat.le_refl _) (.cells #[.int .i64 k, .string s, .int .i64 n, .slice la ln lc] 25))
  clear hc
  go_enter Tryz.func20, Tryz.ntmps20
  go_wp2_with fail
  go_ret2
  exact ⟨rfl, HB.out⟩
end Go.Proofs.YtgpbgldnaongnaaGreatDoor

namespace Go.Proofs.YtgpbgldnaongnaaGreatDoor
open Go.RowKit
set_option maxRecDepth 20000

namespace RT
open Pl
theorem enc_le (t : RT) : t.In → t.sz ≤ 1073741824 → (enc t).length ≤ 2 * t.sz := by
  induction t using RT.ind with
  | h k s n l ih =>
    intro hin hsz
    rw [enc_mk, List.length_append, sz_mk]
    rw [sz_mk] at hsz
    have h1 := encH_le k s n l.length (by omega) hin.num (by have := szL_len l; omega)
    have h2 : ∀ l' : List RT, (∀ t ∈ l', t ∈ l) → szL l' ≤ szL l → (encL l').length ≤ 2 * szL l' := by
      intro l'
      induction l' with
      | nil => intro _ _; simp [encL]
      | cons t ts ih2 =>
        intro hm hs
        simp only [szL] at hs
        have a := ih t (hm t (by simp)) (hin.list t (hm t (by simp))) (by omega)
        have b := ih2 (fun t' ht' => hm t' (by simp [ht'])) (by omega)
        simp only [encL, szL, List.length_append]
        omega
    have h3 := h2 l (fun _ h => h) (Nat.le_refl _)
    omega
theorem encL_le2 (l : List RT) (hin : ∀ t ∈ l, In t) (hsz : szL l ≤ 1073741824) : (encL l).length ≤ 2 * szL l := by
  have := enc_le (.mk 7 ⟨#[]⟩ 0 l) (.mk _ _ _ _ (by unfold In64; omega) hin)
  induction l with
  | nil => simp [encL]
  | cons t ts ih =>
    simp only [szL] at hsz
    have a := enc_le t (hin t (by simp)) (by omega)
    have b := ih (fun t' ht' => hin t' (by simp [ht'])) (by omega) (enc_le _ (.mk _ _ _ _ (by unfold In64; omega) (fun t' ht' => hin t' (by simp [ht']))))
    simp only [encL, szL, List.length_append]
    omega
end RT

--BEGIN
set_option maxHeartbeats 8000000 in
theorem size_walk (W : World) (hT : Mm.Tab W) : ∀ (t : RT), t.ok = true → t.In → t.sz ≤ 1073741824 → ∀ (c0 c1 c2 c3 : Value), Mm.RepY W t [c0, c1, c2, c3] → ∀ (w : World), Below W.heap.size W w →
    Calls Tryz.prog 21 #[.agg #[c0, c1, c2, c3]] w fun e w' => e = .returned (.int .i64 (t.enc.length : Nat)) ∧ Below w.heap.size w w' := by
  intro t
  induction t using RT.ind with
  | h k s nn ts ih =>
  intro hok hin hsz c0 c1 c2 c3 hX w hW
  obtain ⟨la, lc, hcs, hel⟩ := hX.open
  simp only [List.cons.injEq, and_true] at hcs
  obtain ⟨rfl, rfl, rfl, rfl⟩ := hcs
  rw [RT.ok_mk, Bool.and_eq_true] at hok
  rw [RT.enc_mk]
  rw [RT.sz_mk] at hsz
  have nilc : ts.length = 0 → RT.encL ts = [] := fun h => by rw [List.eq_nil_of_length_eq_zero h]; simp [RT.encL]
  obtain ⟨p, hp⟩ : ∃ p, p = w.heap.size := ⟨_, rfl⟩
  obtain ⟨w0, hw0⟩ : ∃ w0, w0 = w.alloc (.cells #[.int .i64 k, .string s, .int .i64 nn, .slice la ts.length lc] 25) := ⟨_, rfl⟩
  have HP0 : Hid (w0.heap[p]? = some (.cells #[.int .i64 k, .string s, .int .i64 nn, .slice la ts.length lc] 25 (0, 0))) := by
    show _ = _
    rw [hw0, hp]
    exact heap_alloc_new w _
  have HB0 : Hid (Below w.heap.size w w0) := by rw [hw0]; exact (Below.refl _ _).alloc (Nat.le_refl _) _
  have HS0 : Hid (w0.heap.size = w.heap.size + 1) := by show _ = _; rw [hw0]; simp
  have HK : Hid (∀ V, Below w0.heap.size w0 V → V.cell? ⟨p, 0, none⟩ = some (.int .i64 k) ∧ V.cell? ⟨p, 1, none⟩ = some (.string s) ∧ V.cell? ⟨p, 2, none⟩ = some (.int .i64 nn) ∧ V.cell? ⟨p, 3, none⟩ = some (.slice la ts.length lc)) := fun V hV => by
    have h := (hV.block p (by rw [HS0.out, hp]; omega)).trans HP0.out
    exact ⟨Mm.cellOf h rfl, Mm.cellOf h rfl, Mm.cellOf h rfl, Mm.cellOf h rfl⟩
  have HTW := Pl.hid (fun (n : Int) (hn : Pl.In64 n) w' (hw' : Below w0.heap.size w0 w') => text_walk n w' hn (hT.on (hW.trans ((HB0.out.trans (hw'.mono HB0.out.size)).mono hW.size))))
  have HW0eq := Pl.hid hw0
  have HPeq := Pl.hid hp
  obtain ⟨k0, k1, k2, k3⟩ := HK.out w0 (Below.refl _ _)
  have HIN := hin.num
  rcases RT.okHead_cases hok.1 with ⟨rfl, h2, rfl, h4⟩ | ⟨rfl, h2, rfl, h4⟩ | ⟨rfl, h2, h4⟩ | ⟨rfl, rfl, h4⟩ | ⟨rfl, h2, rfl, h4⟩ | ⟨rfl, h2, rfl, h4⟩ | ⟨rfl, rfl, rfl⟩
  · rw [nilc h4]
    have HR : Hid ((RT.encH 1 s 0 ts.length ++ []).length = 3 + s.size) := by show _ = _; simp [RT.encH, Pl.crlf, Pl.L_length]; omega
    have hss : s.size ≤ 1073741824 := by omega
    clear nilc hel hok hin hsz hX h2 h4 ih HIN hw0 hp
    go_enter Tryz.func21, Tryz.ntmps21
    go_wp2_with fail
    go_ret
    rw [HR.out]
    refine ⟨Pl.ret1i (by omega), ?_⟩
    rw [← HW0eq.out]
    exact HB0.out
  · rw [nilc h4]
    have HR : Hid ((RT.encH 2 s 0 ts.length ++ []).length = 3 + s.size) := by show _ = _; simp [RT.encH, Pl.crlf, Pl.L_length]; omega
    have hss : s.size ≤ 1073741824 := by omega
    clear nilc hel hok hin hsz hX h2 h4 ih HIN hw0 hp
    go_enter Tryz.func21, Tryz.ntmps21
    go_wp2_with fail
    go_ret
    rw [HR.out]
    refine ⟨Pl.ret1i (by omega), ?_⟩
    rw [← HW0eq.out]
    exact HB0.out
  · rw [nilc h4]
    obtain ⟨TX, hTX⟩ : ∃ TX, TX = Pl.B (Lib.itoa nn) := ⟨_, rfl⟩
    have hTs : TX.size ≤ 21 := by rw [hTX, Pl.B_size]; exact Pl.itoa_le _ HIN
    have HR : Hid ((RT.encH 3 s nn ts.length ++ []).length = 3 + TX.size) := by show _ = _; rw [hTX, Pl.B_size]; simp [RT.encH, Pl.crlf]; omega
    have HTT := Pl.hid (HTW.out nn HIN w0 (Below.refl _ _))
    rw [← hTX] at HTT
    clear nilc hel hok hin hsz hX h2 h4 ih HIN hw0 hp hTX
    go_enter Tryz.func21, Tryz.ntmps21
    go_wp2_with fail
    rw [← HW0eq.out]
    refine HTT.out.mono ?_
    rintro e w2 ⟨rfl, hb2⟩
    have HB2 := Pl.hid hb2
    clear hb2
    go_wp2_with fail
    go_ret
    rw [HR.out]
    exact ⟨Pl.ret1i (by omega), HB0.out.trans (HB2.out.mono HB0.out.size)⟩
  · rw [nilc h4]
    obtain ⟨TX, hTX⟩ : ∃ TX, TX = Pl.B (Lib.itoa (s.size : Int)) := ⟨_, rfl⟩
    have hsI : Pl.In64 (s.size : Int) := by unfold Pl.In64; omega
    have hTs : TX.size ≤ 21 := by rw [hTX, Pl.B_size]; exact Pl.itoa_le _ hsI
    have HR : Hid ((RT.encH 4 s 0 ts.length ++ []).length = 5 + TX.size + s.size) := by
      show _ = _
      rw [hTX, Pl.B_size, Pl.itoa_pos (by omega)]
      simp [RT.encH, Pl.bulkE, Pl.crlf, Pl.L_length]
      omega
    have HTT := Pl.hid (HTW.out (s.size : Int) hsI w0 (Below.refl _ _))
    rw [← hTX] at HTT
    have hss : s.size ≤ 1073741824 := by omega
    clear nilc hel hok hin hsz hX h4 ih HIN hw0 hp hTX hsI
    go_enter Tryz.func21, Tryz.ntmps21
    go_wp2_with fail
    rw [← HW0eq.out, ← HPeq.out]
    refine HTT.out.mono ?_
    rintro e w2 ⟨rfl, hb2⟩
    have HB2 := Pl.hid hb2
    clear hb2 k0 k1 k2 k3
    obtain ⟨k0, k1, k2, k3⟩ := HK.out w2 HB2.out
    go_wp2_with fail
    go_ret
    rw [HR.out]
    exact ⟨Pl.ret1i (by omega), HB0.out.trans (HB2.out.mono HB0.out.size)⟩
  · rw [nilc h4]
    have HR : Hid ((RT.encH 5 s 0 ts.length ++ []).length = 5) := by show _ = _; simp [RT.encH]
    clear nilc hel hok hin hsz hX h2 h4 ih HIN hw0 hp
    go_enter Tryz.func21, Tryz.ntmps21
    go_wp2_with fail
    go_ret
    rw [HR.out]
    refine ⟨rfl, ?_⟩
    rw [← HW0eq.out]
    exact HB0.out
  · rw [nilc h4]
    have HR : Hid ((RT.encH 7 s 0 ts.length ++ []).length = 5) := by show _ = _; simp [RT.encH]
    clear nilc hel hok hin hsz hX h2 h4 ih HIN hw0 hp
    go_enter Tryz.func21, Tryz.ntmps21
    go_wp2_with fail
    go_ret
    rw [HR.out]
    refine ⟨rfl, ?_⟩
    rw [← HW0eq.out]
    exact HB0.out
  · obtain ⟨n, hnn⟩ : ∃ n, n = ts.length := ⟨_, rfl⟩
    have hn' : n ≤ 1099511627776 := by have := RT.szL_len ts; omega
    have HIN' := Pl.hid hin.list
    have hEL := RT.encL_le2 ts hin.list (by omega)
    obtain ⟨TX, hTX⟩ : ∃ TX, TX = Pl.B (Lib.itoa (n : Int)) := ⟨_, rfl⟩
    have hnI : Pl.In64 (n : Int) := by unfold Pl.In64; omega
    have hTs : TX.size ≤ 21 := by rw [hTX, Pl.B_size]; exact Pl.itoa_le _ hnI
    have HR : Hid ((RT.encH 6 ⟨#[]⟩ 0 ts.length ++ RT.encL ts).length = 3 + TX.size + (RT.encL ts).length) := by
      show _ = _
      rw [hTX, Pl.B_size, Pl.itoa_pos (by omega), ← hnn]
      simp [RT.encH, Pl.crlf]
      omega
    have HTT := Pl.hid (HTW.out (n : Int) hnI w0 (Below.refl _ _))
    rw [← hTX] at HTT
    have hEL' : (RT.encL ts).length ≤ 2147483648 := by omega
    have HOK := Pl.hid ((RT.okL_iff ts).1 hok.2)
    have IH := Pl.hid ih
    have HSZ : Hid (∀ t ∈ ts, t.sz ≤ 1073741824) := fun t ht => by have := RT.szL_mem ht; omega
    have HEL := Pl.hid hel
    have HNN := Pl.hid hnn
    have HW := Pl.hid hW
    rw [← hnn] at HK HW0eq k3 ⊢
    clear nilc hel hok hin hsz hX ih HIN hw0 hp hTX hnI hEL hW hnn
    go_enter Tryz.func21, Tryz.ntmps21
    go_wp2_with fail
    rw [← HW0eq.out, ← HPeq.out]
    refine HTT.out.mono ?_
    rintro e w2 ⟨rfl, hb2⟩
    have HB2 := Pl.hid hb2
    clear hb2 k0 k1 k2 k3
    obtain ⟨k0, k1, k2, k3⟩ := HK.out w2 HB2.out
    go_wp2_with fail
    clear k0 k1 k2 k3
    go_loopw [46, 3] (fun iv nv wr => ∃ (i : Nat) (m : Nat), iv = .int .i64 i ∧ nv = .int .i64 m ∧ i ≤ n ∧ m ≤ 2147483700 ∧ Hid (m = 3 + TX.size + (RT.encL (ts.take i)).length) ∧ Hid (Below w0.heap.size w0 wr)) (fun iv _ _ => n - (intOf iv).toNat)
    case atStart => exact ⟨0, 3 + TX.size, rfl, by go_num, Nat.zero_le _, by omega, by show _ = _; rw [List.take_zero, show RT.encL [] = [] by simp [RT.encL]]; rfl, HB2.out⟩
    case round =>
      obtain ⟨i, m, rfl, rfl, hi, hm, HM, HB⟩ := hrel
      rcases Nat.lt_or_ge i n with hlt | hge
      · rcases HEL.out with h0 | ⟨blk, bo, rfl, hbl, hel⟩
        · have := HNN.out; omega
        have hlt' : i < ts.length := by rw [← HNN.out]; exact hlt
        obtain ⟨f0, f1, f2, f3, g0, g1, g2, g3, hrep⟩ := hel i hlt'
        have HWr : Hid (Below W.heap.size W wr) := HW.out.trans ((HB0.out.trans (HB.out.mono HB0.out.size)).mono HW.out.size)
        have e0 := (HWr.out.cell (p := ⟨blk, bo + i * 4, none⟩) hbl).trans g0
        have e1 := (HWr.out.cell (p := ⟨blk, bo + i * 4 + 1, none⟩) hbl).trans g1
        have e2 := (HWr.out.cell (p := ⟨blk, bo + i * 4 + 2, none⟩) hbl).trans g2
        have e3 := (HWr.out.cell (p := ⟨blk, bo + i * 4 + 3, none⟩) hbl).trans g3
        have HREP := Pl.hid hrep
        clear g0 g1 g2 g3 hrep hel
        have HSZW : Hid (w0.heap.size ≤ wr.heap.size) := HB.out.size
        go_wp2_with (refine Mm.wp_store4 _ rfl _ _ rfl wr.heap.size _ _ _ _ _ _ (heap_alloc_new wr _) rfl rfl rfl HREP.out.one ?_; intro w4 hw4 hs4 hg4; have HW4 := Pl.hid hw4; have HG4 := Pl.hid hg4; have HS4 := Pl.hid hs4; clear hw4 hs4 hg4; have q0 := Mm.cellOf (i := 0) (v := f0) HW4.out rfl; have q1 := Mm.cellOf (i := 1) (v := f1) HW4.out rfl; have q2 := Mm.cellOf (i := 2) (v := f2) HW4.out rfl; have q3 := Mm.cellOf (i := 3) (v := f3) HW4.out rfl; clear e0 e1 e2 e3)
        have HB4 : Hid (Below w0.heap.size w0 w4) := by
          refine (HB.out.alloc HB.out.size (.cells #[.int .i64 0, .string ⟨#[]⟩, .int .i64 0, .slice none 0 0] 25)).grown HG4.out (by have := HSZW.out; simp; omega) (fun k hk => by injection hk with hk; have := HSZW.out; omega)
        have HLEN4 : Hid ((RT.encL (ts.take i)).length + (ts[i]'hlt').enc.length ≤ (RT.encL ts).length) := by
          have h1 := RT.encL_le ts (i + 1)
          rw [RT.encL_take ts i hlt', List.length_append] at h1
          exact h1
        obtain ⟨E, hE⟩ : ∃ E, E = (ts[i]'hlt').enc.length := ⟨_, rfl⟩
        have HI := Pl.hid (IH.out _ (List.getElem_mem hlt') (HOK.out _ (List.getElem_mem hlt')) (HIN'.out _ (List.getElem_mem hlt')) (HSZ.out _ (List.getElem_mem hlt')) f0 f1 f2 f3 HREP.out w4 (HW.out.trans ((HB0.out.trans (HB4.out.mono HB0.out.size)).mono HW.out.size)))
        rw [← hE] at HI HLEN4
        have hmE : m + E ≤ 2147483700 := by have := HM.out; have := HLEN4.out; omega
        have HE := Pl.hid hE
        clear hE
        refine HI.out.mono ?_
        rintro e w5 ⟨rfl, hb5⟩
        have HB5 := Pl.hid (HB4.out.trans (hb5.mono HB4.out.size))
        clear hb5 q0 q1 q2 q3
        go_wp2_with fail
        go_roundw
        case rel =>
          refine ⟨i + 1, m + E, by go_num, by go_num, by omega, hmE, ?_, HB5⟩
          show _ = _
          rw [RT.encL_take ts i hlt', List.length_append, ← HE.out, HM.out]
          omega
        case measure => simp [intOf]; omega
      · obtain rfl : i = n := by omega
        go_wp2_with fail
        go_ret
        have h := HM.out
        rw [HNN.out, List.take_length] at h
        have hr := HR.out
        rw [← HNN.out] at hr
        rw [hr]
        exact ⟨Pl.ret1i (by omega), HB0.out.trans (HB.out.mono HB0.out.size)⟩
--END
end Go.Proofs.YtgpbgldnaongnaaGreatDoor

namespace Go.Proofs.YtgpbgldnaongnaaGreatDoor
open Go.RowKit
set_option maxRecDepth 20000

namespace RT
open Pl
def lookD (t : RT) : Int := if t.ok then (t.depth : Int) else 0
theorem lookD_ok {t : RT} (h : t.ok = true) : lookD t = t.depth := if_pos h
theorem lookD_not {t : RT} (h : t.ok = false) : lookD t = 0 := if_neg (by rw [h]; exact Bool.false_ne_true)
theorem depth_le (t : RT) : t.depth ≤ t.sz := by
  induction t using RT.ind with
  | h k s n l ih =>
    rw [depth_mk, sz_mk]
    have h2 : ∀ l' : List RT, (∀ t ∈ l', t ∈ l) → depthL l' ≤ szL l' := by
      intro l'
      induction l' with
      | nil => intro _; simp [depthL]
      | cons t ts ih2 =>
        intro hm
        have a := ih t (hm t (by simp))
        have b := ih2 (fun t' ht' => hm t' (by simp [ht']))
        simp only [depthL, szL]
        omega
    have h3 := h2 l (fun _ h => h)
    split <;> omega
theorem depthL_le (l : List RT) : depthL l ≤ szL l := by
  induction l with
  | nil => simp [depthL]
  | cons t ts ih => have := depth_le t; simp only [depthL, szL]; omega
theorem depthL_append : ∀ (a b : List RT), depthL (a ++ b) = max (depthL a) (depthL b)
  | [], b => by simp [depthL]
  | x :: a, b => by simp [depthL, depthL_append a b, Nat.max_assoc]
theorem take_snoc (l : List RT) (i : Nat) (h : i < l.length) : l.take (i + 1) = l.take i ++ [l[i]'h] := by rw [List.take_add_one, List.getElem?_eq_getElem h]; rfl
theorem depthL_take (l : List RT) (i : Nat) (h : i < l.length) : depthL (l.take (i + 1)) = max (depthL (l.take i)) (l[i]'h).depth := by
  rw [take_snoc l i h, depthL_append]
  simp [depthL]
theorem okL_take (l : List RT) (i : Nat) (h : i < l.length) : okL (l.take (i + 1)) = (okL (l.take i) && (l[i]'h).ok) := by
  rw [take_snoc l i h, okL_all, okL_all, List.all_append]
  simp
theorem szL_take_le (l : List RT) (i : Nat) : szL (l.take i) ≤ szL l := by
  conv => rhs; rw [← List.take_append_drop i l]
  rw [szL_append]
  omega
theorem okHead_false (k : Int) (s : ByteArray) (n : Int) (ln : Nat) (h : k < 1 ∨ 7 < k) : okHead k s n ln = false := by
  have a1 : (k == 1) = false := beq_eq_false_iff_ne.2 (by omega)
  have a2 : (k == 2) = false := beq_eq_false_iff_ne.2 (by omega)
  have a3 : (k == 3) = false := beq_eq_false_iff_ne.2 (by omega)
  have a4 : (k == 4) = false := beq_eq_false_iff_ne.2 (by omega)
  have a5 : (k == 5) = false := beq_eq_false_iff_ne.2 (by omega)
  have a6 : (k == 6) = false := beq_eq_false_iff_ne.2 (by omega)
  have a7 : (k == 7) = false := beq_eq_false_iff_ne.2 (by omega)
  unfold okHead
  rw [a1, a2, a3, a4, a5, a6, a7]
  rfl
end RT

/-- what looked tells of the fields -/
theorem looked_heads (k : Int) (s : ByteArray) (n : Int) (la : Option Addr) (ln lc : Nat) (hz : s.size < 4294967281) (w : World) (h6 : ¬ (k = 6 ∧ s.size = 0 ∧ n = 0)) :
    Calls Tryz.prog 20 #[.agg #[.int .i64 k, .string s, .int .i64 n, .slice la ln lc]] w fun e w' => e = .returned (.tuple #[.int .i64 0, .bool (RT.okHead k s n ln)]) ∧ (RT.okHead k s n ln = true → ln = 0) ∧ Below w.heap.size w w' := by
  by_cases hlo : k < 1
  · rw [RT.okHead_false k s n ln (.inl hlo)]
    exact (looked_lo k hlo s n la ln lc w).mono fun e w' h => ⟨h.1, fun h => (Bool.false_ne_true h).elim, h.2⟩
  by_cases hhi : 7 < k
  · rw [RT.okHead_false k s n ln (.inr hhi)]
    exact (looked_hi k hhi s n la ln lc w).mono fun e w' h => ⟨h.1, fun h => (Bool.false_ne_true h).elim, h.2⟩
  have bad : ∀ {e : Ending} {w' : World} {b : Bool}, b = false → e = .returned (.tuple #[.int .i64 0, .bool false]) ∧ Below w.heap.size w w' → e = .returned (.tuple #[.int .i64 0, .bool b]) ∧ (b = true → ln = 0) ∧ Below w.heap.size w w' := fun hb h => by
    subst hb
    exact ⟨h.1, fun h => (Bool.false_ne_true h).elim, h.2⟩
  have good : ∀ {e : Ending} {w' : World} {b : Bool}, b = true → ln = 0 → e = .returned (.tuple #[.int .i64 0, .bool true]) ∧ Below w.heap.size w w' → e = .returned (.tuple #[.int .i64 0, .bool b]) ∧ (b = true → ln = 0) ∧ Below w.heap.size w w' := fun hb hl h => by
    subst hb
    exact ⟨h.1, fun _ => hl, h.2⟩
  have nf : ∀ {m : Int}, m ≠ 0 → (m == 0) = false := fun h => beq_eq_false_iff_ne.2 h
  have lf : ln ≠ 0 → ((ln : Int) == 0) = false := fun h => beq_eq_false_iff_ne.2 (by omega)
  have lf' : ln ≠ 0 → (ln == 0) = false := fun h => beq_eq_false_iff_ne.2 h
  have sf : s.size ≠ 0 → (s.size == 0) = false := fun h => beq_eq_false_iff_ne.2 h
  rcases (show k = 1 ∨ k = 2 ∨ k = 3 ∨ k = 4 ∨ k = 5 ∨ k = 6 ∨ k = 7 by omega) with rfl | rfl | rfl | rfl | rfl | rfl | rfl
  · cases hs : Pl.noEnd (Pl.L s)
    · exact (looked_1_fvv s n la ln lc w hz hs).mono fun e w' => bad (by unfold RT.okHead; simp [hs])
    by_cases hn : n = 0
    · by_cases hl : ln = 0
      · exact (looked_1_tzz s n la ln lc w hz hs hn hl).mono fun e w' => good (by unfold RT.okHead; simp [hs, hn, hl]) hl
      · exact (looked_1_tzn s n la ln lc w hz hs hn (lf hl)).mono fun e w' => bad (by unfold RT.okHead; simp [hl])
    · exact (looked_1_tnv s n la ln lc w hz hs (nf hn)).mono fun e w' => bad (by unfold RT.okHead; simp [hn])
  · cases hs : Pl.noEnd (Pl.L s)
    · exact (looked_2_fvv s n la ln lc w hz hs).mono fun e w' => bad (by unfold RT.okHead; simp [hs])
    by_cases hn : n = 0
    · by_cases hl : ln = 0
      · exact (looked_2_tzz s n la ln lc w hz hs hn hl).mono fun e w' => good (by unfold RT.okHead; simp [hs, hn, hl]) hl
      · exact (looked_2_tzn s n la ln lc w hz hs hn (lf hl)).mono fun e w' => bad (by unfold RT.okHead; simp [hl])
    · exact (looked_2_tnv s n la ln lc w hz hs (nf hn)).mono fun e w' => bad (by unfold RT.okHead; simp [hn])
  · by_cases hs : s.size = 0
    · by_cases hl : ln = 0
      · exact (looked_3_evz s n la ln lc w (Pl.isE_true hs) hl).mono fun e w' => good (by unfold RT.okHead; simp [hs, hl]) hl
      · exact (looked_3_evn s n la ln lc w (Pl.isE_true hs) (lf hl)).mono fun e w' => bad (by unfold RT.okHead; simp [hl])
    · exact (looked_3_nvv s n la ln lc w (Pl.isE_false hs)).mono fun e w' => bad (by unfold RT.okHead; simp [hs])
  · by_cases hn : n = 0
    · by_cases hl : ln = 0
      · exact (looked_4_vzz s n la ln lc w hn hl).mono fun e w' => good (by unfold RT.okHead; simp [hn, hl]) hl
      · exact (looked_4_vzn s n la ln lc w hn (lf hl)).mono fun e w' => bad (by unfold RT.okHead; simp [hl])
    · exact (looked_4_vnv s n la ln lc w (nf hn)).mono fun e w' => bad (by unfold RT.okHead; simp [hn])
  · by_cases hs : s.size = 0
    · by_cases hn : n = 0
      · by_cases hl : ln = 0
        · exact (looked_5_ezz s n la ln lc w (Pl.isE_true hs) hn hl).mono fun e w' => good (by unfold RT.okHead; simp [hs, hn, hl]) hl
        · exact (looked_5_ezn s n la ln lc w (Pl.isE_true hs) hn (lf hl)).mono fun e w' => bad (by unfold RT.okHead; simp [hl])
      · exact (looked_5_env s n la ln lc w (Pl.isE_true hs) (nf hn)).mono fun e w' => bad (by unfold RT.okHead; simp [hn])
    · exact (looked_5_nvv s n la ln lc w (Pl.isE_false hs)).mono fun e w' => bad (by unfold RT.okHead; simp [hs])
  · by_cases hs : s.size = 0
    · by_cases hn : n = 0
      · exact absurd ⟨rfl, hs, hn⟩ h6
      · exact (looked_6_env s n la ln lc w (Pl.isE_true hs) (nf hn)).mono fun e w' => bad (by unfold RT.okHead; simp [hn])
    · exact (looked_6_nvv s n la ln lc w (Pl.isE_false hs)).mono fun e w' => bad (by unfold RT.okHead; simp [hs])
  · by_cases hs : s.size = 0
    · by_cases hn : n = 0
      · by_cases hl : ln = 0
        · exact (looked_7_ezz s n la ln lc w (Pl.isE_true hs) hn hl).mono fun e w' => good (by unfold RT.okHead; simp [hs, hn, hl]) hl
        · exact (looked_7_ezn s n la ln lc w (Pl.isE_true hs) hn (lf hl)).mono fun e w' => bad (by unfold RT.okHead; simp [hl])
      · exact (looked_7_env s n la ln lc w (Pl.isE_true hs) (nf hn)).mono fun e w' => bad (by unfold RT.okHead; simp [hn])
    · exact (looked_7_nvv s n la ln lc w (Pl.isE_false hs)).mono fun e w' => bad (by unfold RT.okHead; simp [hs])

set_option maxHeartbeats 8000000 in
theorem looked_walk (W : World) : ∀ (t : RT), t.sz ≤ 1073741824 → ∀ (c0 c1 c2 c3 : Value), Mm.RepY W t [c0, c1, c2, c3] → ∀ (w : World), Below W.heap.size W w →
    Calls Tryz.prog 20 #[.agg #[c0, c1, c2, c3]] w fun e w' => e = .returned (.tuple #[.int .i64 t.lookD, .bool t.ok]) ∧ Below w.heap.size w w' := by
  intro t
  induction t using RT.ind with
  | h k s nn ts ih =>
  intro hsz c0 c1 c2 c3 hX w hW
  obtain ⟨la, lc, hcs, hel⟩ := hX.open
  simp only [List.cons.injEq, and_true] at hcs
  obtain ⟨rfl, rfl, rfl, rfl⟩ := hcs
  rw [RT.sz_mk] at hsz
  by_cases h6 : ¬ (k = 6 ∧ s.size = 0 ∧ nn = 0)
  · refine (looked_heads k s nn la ts.length lc (by omega) w h6).mono ?_
    rintro e w' ⟨rfl, hl, hb⟩
    refine ⟨?_, hb⟩
    cases ho : RT.okHead k s nn ts.length
    · have hf : (RT.mk k s nn ts).ok = false := by rw [RT.ok_mk, ho]; rfl
      rw [hf, RT.lookD_not hf]
    · have h0 := hl ho
      have hts : ts = [] := List.eq_nil_of_length_eq_zero h0
      have ht : (RT.mk k s nn ts).ok = true := by rw [RT.ok_mk, ho, hts]; simp [RT.okL]
      have hk6 : k ≠ 6 := fun e => by
        subst e
        refine h6 ⟨rfl, ?_⟩
        rcases RT.okHead_cases ho with h | h | h | h | h | h | ⟨_, h1, h2⟩
        · exact absurd h.1 (by decide)
        · exact absurd h.1 (by decide)
        · exact absurd h.1 (by decide)
        · exact absurd h.1 (by decide)
        · exact absurd h.1 (by decide)
        · exact absurd h.1 (by decide)
        · exact ⟨by rw [h1]; rfl, h2⟩
      rw [ht, RT.lookD_ok ht, RT.depth_mk, if_neg hk6]
      rfl
  obtain ⟨rfl, hs0, rfl⟩ := Classical.not_not.1 h6
  obtain rfl := Pl.isE_true hs0
  obtain ⟨n, hnn⟩ : ∃ n, n = ts.length := ⟨_, rfl⟩
  have hn' : n ≤ 1099511627776 := by have := RT.szL_len ts; omega
  obtain ⟨p, hp⟩ : ∃ p, p = w.heap.size := ⟨_, rfl⟩
  obtain ⟨w0, hw0⟩ : ∃ w0, w0 = w.alloc (.cells #[.int .i64 6, .string ⟨#[]⟩, .int .i64 0, .slice la ts.length lc] 25) := ⟨_, rfl⟩
  have HP0 : Hid (w0.heap[p]? = some (.cells #[.int .i64 6, .string ⟨#[]⟩, .int .i64 0, .slice la ts.length lc] 25 (0, 0))) := by
    show _ = _
    rw [hw0, hp]
    exact heap_alloc_new w _
  have HB0 : Hid (Below w.heap.size w w0) := by rw [hw0]; exact (Below.refl _ _).alloc (Nat.le_refl _) _
  have HS0 : Hid (w0.heap.size = w.heap.size + 1) := by show _ = _; rw [hw0]; simp
  have HK : Hid (∀ V, Below w0.heap.size w0 V → V.cell? ⟨p, 0, none⟩ = some (.int .i64 6) ∧ V.cell? ⟨p, 1, none⟩ = some (.string ⟨#[]⟩) ∧ V.cell? ⟨p, 2, none⟩ = some (.int .i64 0) ∧ V.cell? ⟨p, 3, none⟩ = some (.slice la ts.length lc)) := fun V hV => by
    have h := (hV.block p (by rw [HS0.out, hp]; omega)).trans HP0.out
    exact ⟨Mm.cellOf h rfl, Mm.cellOf h rfl, Mm.cellOf h rfl, Mm.cellOf h rfl⟩
  have HW0eq := Pl.hid hw0
  have HPeq := Pl.hid hp
  obtain ⟨k0, k1, k2, k3⟩ := HK.out w0 (Below.refl _ _)
  have HNN := Pl.hid hnn
  have HW := Pl.hid hW
  have IH := Pl.hid ih
  have HSZ : Hid (∀ t ∈ ts, t.sz ≤ 1073741824) := fun t ht => by have := RT.szL_mem ht; omega
  have HSZL : Hid (RT.szL ts ≤ 1073741824) := by show _ ≤ _; omega
  have HEL := Pl.hid hel
  have HOKT : Hid (RT.okL ts = true → (RT.mk 6 ⟨#[]⟩ 0 ts).ok = true) := fun h => by rw [RT.ok_mk, h]; rfl
  have HOKF : Hid (RT.okL ts = false → (RT.mk 6 ⟨#[]⟩ 0 ts).ok = false) := fun h => by rw [RT.ok_mk, h]; simp
  rw [← hnn] at HK HW0eq k3 ⊢
  rw [hw0, hp] at k0 k1 k2 k3
  rw [← hnn] at k0 k1 k2 k3
  clear hel hsz hX ih hw0 hp hW hnn hs0 h6
  go_enter Tryz.func20, Tryz.ntmps20
  go_wp2_with fail
  go_quiet (fail)
  go_wp2_with fail
  rw [← HW0eq.out]
  clear k0 k1 k2 k3
  go_loopw [58, 7] (fun iv dv wr => ∃ (i : Nat) (d : Nat), iv = .int .i64 i ∧ dv = .int .i64 d ∧ i ≤ n ∧ d ≤ 1073741824 ∧ Hid (d = RT.depthL (ts.take i)) ∧ Hid (RT.okL (ts.take i) = true) ∧ Hid (Below w0.heap.size w0 wr)) (fun iv _ _ => n - (intOf iv).toNat)
  case atStart => exact ⟨0, 0, rfl, rfl, Nat.zero_le _, by omega, by show _ = _; rw [List.take_zero]; simp [RT.depthL], by show _ = _; rw [List.take_zero]; simp [RT.okL], Mm.below_drewN _ _⟩
  case round =>
    obtain ⟨i, d, rfl, rfl, hi, hd, HD, HOK, HB⟩ := hrel
    rcases Nat.lt_or_ge i n with hlt | hge
    · rcases HEL.out with h0 | ⟨blk, bo, rfl, hbl, hel⟩
      · have := HNN.out; omega
      have hlt' : i < ts.length := by rw [← HNN.out]; exact hlt
      obtain ⟨f0, f1, f2, f3, g0, g1, g2, g3, hrep⟩ := hel i hlt'
      have HWr : Hid (Below W.heap.size W wr) := HW.out.trans ((HB0.out.trans (HB.out.mono HB0.out.size)).mono HW.out.size)
      have e0 := (HWr.out.cell (p := ⟨blk, bo + i * 4, none⟩) hbl).trans g0
      have e1 := (HWr.out.cell (p := ⟨blk, bo + i * 4 + 1, none⟩) hbl).trans g1
      have e2 := (HWr.out.cell (p := ⟨blk, bo + i * 4 + 2, none⟩) hbl).trans g2
      have e3 := (HWr.out.cell (p := ⟨blk, bo + i * 4 + 3, none⟩) hbl).trans g3
      have HREP := Pl.hid hrep
      clear g0 g1 g2 g3 hrep hel
      have HSZW : Hid (w0.heap.size ≤ wr.heap.size) := HB.out.size
      go_wp2_with (refine Mm.wp_store4 _ rfl _ _ rfl wr.heap.size _ _ _ _ _ _ (heap_alloc_new wr _) rfl rfl rfl HREP.out.one ?_; intro w4 hw4 hs4 hg4; have HW4 := Pl.hid hw4; have HG4 := Pl.hid hg4; have HS4 := Pl.hid hs4; clear hw4 hs4 hg4; have q0 := Mm.cellOf (i := 0) (v := f0) HW4.out rfl; have q1 := Mm.cellOf (i := 1) (v := f1) HW4.out rfl; have q2 := Mm.cellOf (i := 2) (v := f2) HW4.out rfl; have q3 := Mm.cellOf (i := 3) (v := f3) HW4.out rfl; clear e0 e1 e2 e3)
      have HB4 : Hid (Below w0.heap.size w0 w4) := by
        refine (HB.out.alloc HB.out.size (.cells #[.int .i64 0, .string ⟨#[]⟩, .int .i64 0, .slice none 0 0] 25)).grown HG4.out (by have := HSZW.out; simp; omega) (fun k hk => by injection hk with hk; have := HSZW.out; omega)
      have HI := Pl.hid (IH.out _ (List.getElem_mem hlt') (HSZ.out _ (List.getElem_mem hlt')) f0 f1 f2 f3 HREP.out w4 (HW.out.trans ((HB0.out.trans (HB4.out.mono HB0.out.size)).mono HW.out.size)))
      obtain ⟨E, hE⟩ : ∃ E, E = (ts[i]'hlt').depth := ⟨_, rfl⟩
      have hEl : E ≤ 1073741824 := by have := RT.depth_le (ts[i]'hlt'); have := HSZ.out _ (List.getElem_mem hlt'); omega
      have HE := Pl.hid hE
      clear hE
      cases hok : (ts[i]'hlt').ok
      · rw [RT.lookD_not hok, hok] at HI
        have HF : Hid (RT.okL ts = false) := by
          show _ = _
          rw [RT.okL_all, List.all_eq_false]
          exact ⟨_, List.getElem_mem hlt', by rw [hok]; exact Bool.false_ne_true⟩
        clear hok
        refine HI.out.mono ?_
        rintro e w5 ⟨rfl, hb5⟩
        have HB5 := Pl.hid (HB4.out.trans (hb5.mono HB4.out.size))
        clear hb5 q0 q1 q2 q3
        go_wp2_with fail
        go_ret2
        rw [HOKF.out HF.out, RT.lookD_not (HOKF.out HF.out)]
        exact ⟨rfl, HB0.out.trans (HB5.out.mono HB0.out.size)⟩
      · rw [RT.lookD_ok hok, hok, ← HE.out] at HI
        have HOK' : Hid (RT.okL (ts.take (i + 1)) = true) := by
          show _ = _
          rw [RT.okL_take ts i hlt', HOK.out, hok]
          rfl
        clear hok
        refine HI.out.mono ?_
        rintro e w5 ⟨rfl, hb5⟩
        have HB5 := Pl.hid (HB4.out.trans (hb5.mono HB4.out.size))
        clear hb5 q0 q1 q2 q3
        go_wp2_with fail
        refine ⟨⟨i + 1, max d E, by go_num, by rw [show ((max d E : Nat) : Int) = max (d : Int) (E : Int) by omega], by omega, by omega, ?_, HOK', HB5⟩, by simp [intOf]; omega⟩
        show _ = _
        rw [RT.depthL_take ts i hlt', ← HE.out, HD.out]
    · obtain rfl : i = n := by omega
      have HF : Hid (RT.okL ts = true) := by have h := HOK.out; rw [HNN.out, List.take_length] at h; exact h
      obtain ⟨k0, k1, k2, k3⟩ := HK.out wr HB.out
      rw [HPeq.out] at k0
      clear k1 k2 k3
      go_wp2_with fail
      go_ret2
      rw [HOKT.out HF.out, RT.lookD_ok (HOKT.out HF.out), RT.depth_mk, if_pos rfl]
      have h := HD.out
      rw [HNN.out, List.take_length] at h
      rw [h]
      exact ⟨rfl, HB0.out.trans (HB.out.mono HB0.out.size)⟩
end Go.Proofs.YtgpbgldnaongnaaGreatDoor

namespace Go.Proofs.YtgpbgldnaongnaaGreatDoor
open Go.RowKit
set_option maxRecDepth 20000

namespace RT
open Pl
/-- how Encode goes -/
def code (t : RT) : Int := if t.ok = false then 160 else if 8 < t.depth then 161 else if 16777216 < t.enc.length then 2 else 0
/-- and what it writes -/
def out (t : RT) : List UInt8 := if t.ok = false then [] else if 8 < t.depth then [] else if 16777216 < t.enc.length then [] else t.enc
theorem co_bad {t : RT} (h : t.ok = false) : code t = 160 ∧ out t = [] := by simp [code, out, h]
theorem co_deep {t : RT} (h : t.ok = true) (h2 : 8 < t.depth) : code t = 161 ∧ out t = [] := by simp [code, out, h, h2]
theorem co_long {t : RT} (h : t.ok = true) (h2 : ¬ 8 < t.depth) (h3 : 16777216 < t.enc.length) : code t = 2 ∧ out t = [] := by simp only [code, out, h, h2, h3, if_true, if_false]; simp
theorem co_good {t : RT} (h : t.ok = true) (h2 : ¬ 8 < t.depth) (h3 : ¬ 16777216 < t.enc.length) : code t = 0 ∧ out t = t.enc := by simp only [code, out, h, h2, h3, if_true, if_false]; simp
end RT

set_option maxHeartbeats 4000000 in
theorem encode_walk (W : World) (hT : Mm.Tab W) (t : RT) (hin : t.In) (hsz : t.sz ≤ 1073741824) (c0 c1 c2 c3 : Value) (hX : Mm.RepY W t [c0, c1, c2, c3]) (w : World) (hW : Below W.heap.size W w) :
    Calls Tryz.prog 7 #[.agg #[c0, c1, c2, c3]] w fun e w' => ∃ v', e = .returned (.tuple #[v', .int .i64 t.code]) ∧ Mm.OwnB w' w.heap.size v' t.out ∧ Below w.heap.size w w' := by
  obtain ⟨p, hp⟩ : ∃ p, p = w.heap.size := ⟨_, rfl⟩
  obtain ⟨w0, hw0⟩ : ∃ w0, w0 = w.alloc (.cells #[c0, c1, c2, c3] 25) := ⟨_, rfl⟩
  have HB0 : Hid (Below w.heap.size w w0) := by rw [hw0]; exact (Below.refl _ _).alloc (Nat.le_refl _) _
  have HK : Hid (∀ V, Below w0.heap.size w0 V → ∀ i u, (#[c0, c1, c2, c3] : Array Value)[i]? = some u → V.cell? ⟨p, i, none⟩ = some u) := fun V hV i u hu => by
    have h0 : w0.cell? ⟨p, i, none⟩ = some u := by rw [hw0, hp, World.cell?_alloc_mark]; exact hu
    exact (hV.cell (p := ⟨p, i, none⟩) (World.block_lt_of_cell? _ _ h0)).trans h0
  have HW0eq := Pl.hid hw0
  have HPeq := Pl.hid hp
  have HWW : Hid (∀ V, Below w0.heap.size w0 V → Below W.heap.size W V) := fun V hV => hW.trans ((HB0.out.trans (hV.mono HB0.out.size)).mono hW.size)
  have HX := Pl.hid hX
  have HT := Pl.hid hT
  have HIN := Pl.hid hin
  have HSZ := Pl.hid hsz
  have HEL := Pl.hid (RT.enc_le t hin hsz)
  have hk := HK.out w0 (Below.refl _ _)
  have k0 := hk 0 _ rfl
  have k1 := hk 1 _ rfl
  have k2 := hk 2 _ rfl
  have k3 := hk 3 _ rfl
  have hone := HX.out.one
  have o0 := hone c0 (by simp)
  have o1 := hone c1 (by simp)
  have o2 := hone c2 (by simp)
  have o3 := hone c3 (by simp)
  clear hw0 hp hk hT hX hin hsz hW
  go_enter Tryz.func7, Tryz.ntmps7
  go_wp2_with fail
  rw [← HW0eq.out]
  refine (looked_walk W t HSZ.out c0 c1 c2 c3 HX.out w0 (HWW.out _ (Below.refl _ _))).mono ?_
  rintro e w1 ⟨rfl, hb1⟩
  have HB1 := Pl.hid hb1
  rw [← HPeq.out]
  clear hb1 k0 k1 k2 k3
  have hk := HK.out w1 HB1.out
  have k0 := hk 0 _ rfl
  have k1 := hk 1 _ rfl
  have k2 := hk 2 _ rfl
  have k3 := hk 3 _ rfl
  clear hk
  cases hok : t.ok
  · have HC := Pl.hid (RT.co_bad hok)
    clear hok
    go_wp2_with fail
    go_ret2
    rw [HC.out.1, HC.out.2]
    exact ⟨_, rfl, Mm.ownB_nil _ _, HB0.out.trans (HB1.out.mono HB0.out.size)⟩
  · rw [RT.lookD_ok hok]
    obtain ⟨D, hD⟩ : ∃ D, D = t.depth := ⟨_, rfl⟩
    rw [← hD]
    by_cases hdd : 8 < D
    · have HC := Pl.hid (RT.co_deep hok (by rw [← hD]; exact hdd))
      clear hok hD
      go_wp2_with fail
      go_ret2
      rw [HC.out.1, HC.out.2]
      exact ⟨_, rfl, Mm.ownB_nil _ _, HB0.out.trans (HB1.out.mono HB0.out.size)⟩
    · have HOK := Pl.hid hok
      have HD := Pl.hid hD
      clear hok hD
      go_wp2_with fail
      refine (size_walk W HT.out t HOK.out HIN.out HSZ.out c0 c1 c2 c3 HX.out w1 (HWW.out _ HB1.out)).mono ?_
      rintro e w2 ⟨rfl, hb2⟩
      have HB2 := Pl.hid (HB1.out.trans (hb2.mono HB1.out.size))
      clear hb2 k0 k1 k2 k3
      have hk := HK.out w2 HB2.out
      have k0 := hk 0 _ rfl
      have k1 := hk 1 _ rfl
      have k2 := hk 2 _ rfl
      have k3 := hk 3 _ rfl
      clear hk
      obtain ⟨N, hN⟩ : ∃ N, N = t.enc.length := ⟨_, rfl⟩
      rw [← hN]
      by_cases hnn : 16777216 < N
      · have HC := Pl.hid (RT.co_long HOK.out (by rw [← HD.out]; exact hdd) (by rw [← hN]; exact hnn))
        clear hN
        go_wp2_with fail
        go_ret2
        rw [HC.out.1, HC.out.2]
        exact ⟨_, rfl, Mm.ownB_nil _ _, HB0.out.trans (HB2.out.mono HB0.out.size)⟩
      · have HC := Pl.hid (RT.co_good HOK.out (by rw [← HD.out]; exact hdd) (by rw [← hN]; exact hnn))
        have HN := Pl.hid hN
        clear hN
        go_wp2_with fail
        refine (lay_walk W HT.out t HOK.out HIN.out HSZ.out c0 c1 c2 c3 HX.out w2.heap.size (.slice none 0 0) [] w2 (HWW.out _ HB2.out) (Below.size (HWW.out _ HB2.out)) (Nat.le_refl _) (Mm.ownB_nil _ _) (by have := HN.out; simp only [List.length_nil]; omega)).mono ?_
        rintro e w3 ⟨v3, rfl, ho3, hb3, _⟩
        have HO3 := Pl.hid ho3
        have HB3 := Pl.hid hb3
        clear ho3 hb3 k0 k1 k2 k3
        go_wp2_with fail
        go_ret2
        have h2 : w.heap.size ≤ w2.heap.size := Nat.le_trans HB0.out.size HB2.out.size
        rw [HC.out.1, HC.out.2]
        have ho := HO3.out
        rw [List.nil_append] at ho
        exact ⟨v3, rfl, ho.base0 h2, (HB0.out.trans (HB2.out.mono HB0.out.size)).trans (HB3.out.mono h2)⟩
end Go.Proofs.YtgpbgldnaongnaaGreatDoor
