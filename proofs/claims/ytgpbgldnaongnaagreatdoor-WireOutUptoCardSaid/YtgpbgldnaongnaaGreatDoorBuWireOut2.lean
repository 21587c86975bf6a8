/- Contracts of request's single and double: the word between quotes, and how many bytes it takes. Conditions: texts within the form's reach. Contract of request's double: the word between double quotes, and how many bytes it takes. Conditions: texts within the form's reach. Rows of texts that the call itself made; the words of a line, in plain Lean. Conditions stand in each law. Contract of request's Inline, of a line whose words are right: the words in a new row, no error. Conditions: at most 4096 bytes. Laws on memory for the walks of a parser: a field of a struct in a block of the call's own, bytes at a place, rows of commands. Conditions stand in each law. Conditions stand in each law. -/
import Derived.Test.YtgpbgldnaongnaaGreatDoorBuWireOut1
namespace Go.Proofs.YtgpbgldnaongnaaGreatDoor
open Go.RowKit
set_option maxRecDepth 20000

namespace Pl
theorem map_snoc (o : Option (List UInt8 × Nat)) (acc : List UInt8) (c : UInt8) (n k : Nat) :
    (o.map fun p => (c :: p.1, p.2 + k)).map (fun p => (acc ++ p.1, n + p.2)) = o.map fun p => ((acc ++ [c]) ++ p.1, n + k + p.2) := by
  cases o with
  | none => rfl
  | some p =>
    simp
    omega
/-- how a quoted word is told -/
def qW (o : Option (List UInt8 × Nat)) : ByteArray := match o with | some p => B p.1 | none => ⟨#[]⟩
def qN (o : Option (List UInt8 × Nat)) : Int := match o with | some p => (p.2 : Int) + 1 | none => -1
def sgO (s : ByteArray) : Option (List UInt8 × Nat) := sgl s.size ((L s).drop 1)
def dbO (s : ByteArray) : Option (List UInt8 × Nat) := dbl s.size ((L s).drop 1)
/-- what was read so far -/
def far (o : Option (List UInt8 × Nat)) (acc : List UInt8) (i : Nat) : Option (List UInt8 × Nat) := o.map fun p => (acc ++ p.1, i - 1 + p.2)
theorem far_start (o : Option (List UInt8 × Nat)) : far o [] 1 = o := by
  unfold far
  cases o with
  | none => rfl
  | some p => simp
theorem far_done {o : Option (List UInt8 × Nat)} {acc : List UInt8} {i : Nat} (h : o = far (some ([], 1)) acc i) (hi : 1 ≤ i) : qW o = B acc ∧ qN o = (i : Int) + 1 := by
  rw [h]
  unfold far qW qN
  simp
  omega
theorem far_none {o : Option (List UInt8 × Nat)} {acc : List UInt8} {i : Nat} (h : o = far none acc i) : qW o = ⟨#[]⟩ ∧ qN o = -1 := by
  rw [h]
  exact ⟨rfl, rfl⟩
theorem far_step {o q : Option (List UInt8 × Nat)} {acc : List UInt8} {c : UInt8} {i k : Nat} (h : o = far (q.map fun p => (c :: p.1, p.2 + k)) acc i) (hi : 1 ≤ i) : o = far q (acc ++ [c]) (i + k) := by
  rw [h]
  unfold far
  rw [map_snoc]
  cases q with
  | none => rfl
  | some p =>
    simp
    omega
theorem sgl_q (f : Nat) (r : List UInt8) : sgl (f + 1) (39 :: r) = some ([], 1) := by simp [sgl]
theorem sgl_e (f : Nat) (r : List UInt8) : sgl (f + 1) (92 :: 39 :: r) = (sgl f r).map fun p => (39 :: p.1, p.2 + 2) := by simp [sgl]
theorem sgl_c (f : Nat) (c : UInt8) (r : List UInt8) (h1 : c ≠ 39) (h2 : ¬ (c = 92 ∧ r.head? = some 39)) : sgl (f + 1) (c :: r) = (sgl f r).map fun p => (c :: p.1, p.2 + 1) := by
  simp only [sgl]
  rw [if_neg h1, if_neg h2]
theorem sgl_nil (f : Nat) : sgl f [] = none := by cases f <;> rfl
theorem u8_no {c : UInt8} {n : Nat} {d : UInt8} (h : c.toNat ≠ n) (hd : d.toNat = n) : c ≠ d := fun e => h (by rw [e]; exact hd)
theorem u8_is {c : UInt8} {n : Nat} {d : UInt8} (h : c.toNat = n) (hd : d.toNat = n) : c = d := UInt8.toNat_inj.1 (h.trans hd.symm)
end Pl

theorem Mm.ownB_nil (w : World) (b : Nat) : Mm.OwnB w b (.slice none 0 0) [] := ⟨rfl, .inl ⟨rfl, rfl⟩⟩

theorem single_walk (s : ByteArray) (w : World) (hs : s.size ≤ 140737488351232) :
    Calls Tryz.prog 73 #[.string s] w fun e w' => e = .returned (.tuple #[.string (Pl.qW (Pl.sgO s)), .int .i64 (Pl.qN (Pl.sgO s))]) ∧ Below w.heap.size w w' := by
  go_enter Tryz.func73, Tryz.ntmps73
  go_wp2_with fail
  go_loopw [4, 5] (fun bv iv wr => ∃ (i f : Nat) (acc : List UInt8), iv = .int .i64 i ∧ 1 ≤ i ∧ (i ≤ s.size ∨ i = 1) ∧ s.size ≤ f + i ∧ acc.length + 1 ≤ i ∧ Hid (Mm.OwnB wr w.heap.size bv acc) ∧ Hid (Pl.sgO s = Pl.far (Pl.sgl f ((Pl.L s).drop i)) acc i) ∧ Hid (Below w.heap.size w wr))
    (fun _ i _ => s.size - (intOf i).toNat)
  case atStart => exact ⟨1, s.size, [], rfl, Nat.le_refl _, .inr rfl, by omega, Nat.le_refl _, Mm.ownB_nil _ _, (Pl.far_start _).symm, Below.refl _ _⟩
  case round =>
    obtain ⟨i, f, acc, rfl, hi1, hi2, hf, hacc, HO, HQ, HB⟩ := hrel
    by_cases hlt : i < s.size
    · obtain ⟨f, rfl⟩ : ∃ g, f = g + 1 := ⟨f - 1, by omega⟩
      have hq := HQ.out
      rw [Pl.drop_get s i hlt] at hq
      by_cases h39 : (s[i]'hlt).toNat = 39
      · have e39 : (((s[i]'hlt).toNat : Int) == 39) = true := beq_iff_eq.2 (by omega)
        rw [Pl.u8_is (d := 39) h39 rfl, Pl.sgl_q] at hq
        have HR := Pl.hid (Pl.far_done hq hi1)
        have hcv := Mm.run_str _ _ _ _ HO.out
        clear hq h39 hi2 hf
        go_wp2_with fail
        go_ret2
        exact ⟨Pl.ret2si HR.out.1.symm HR.out.2.symm, HB.out⟩
      · have e39 : (((s[i]'hlt).toNat : Int) == 39) = false := beq_eq_false_iff_ne.2 (by omega)
        by_cases h92 : (s[i]'hlt).toNat = 92
        · have e92 : (((s[i]'hlt).toNat : Int) == 92) = true := beq_iff_eq.2 (by omega)
          by_cases h1 : i + 1 < s.size
          · rw [Pl.drop_get s (i + 1) h1] at hq
            by_cases h39' : (s[i + 1]'h1).toNat = 39
            · have e39' : (((s[i + 1]'h1).toNat : Int) == 39) = true := beq_iff_eq.2 (by omega)
              rw [Pl.u8_is (d := 92) h92 rfl, Pl.u8_is (c := s[i + 1]'h1) (d := 39) h39' rfl, Pl.sgl_e] at hq
              have HR := Pl.hid (Pl.far_step hq hi1)
              have HC := Pl.hid (Pl.u8_is (c := s[i + 1]'h1) (d := 39) h39' rfl)
              rw [← HC.out] at HR
              clear hq h39 h92 h39'
              go_wp2_with (at_builtin; refine Mm.wp_app1 _ rfl _ _ (by rfl) w.heap.size _ _ (s[i + 1]'h1) (by rfl) (by rfl) HO.out (by omega) HB.out.size ?_; intro v1 w1 hown1 hb1)
              have HO1 := Pl.hid hown1
              have HB1 := Pl.hid (HB.out.trans hb1)
              clear hown1 hb1
              go_roundw
              case rel => exact ⟨i + 2, f, acc ++ [s[i + 1]'h1], by go_num, by omega, by omega, by omega, by simp; omega, HO1, HR, HB1⟩
              case measure => simp [intOf]; omega
            · have e39' : (((s[i + 1]'h1).toNat : Int) == 39) = false := beq_eq_false_iff_ne.2 (by omega)
              rw [Pl.sgl_c f (s[i]'hlt) _ (Pl.u8_no (d := 39) h39 rfl) (fun h => h39' (by have h2 := h.2; rw [List.head?_cons] at h2; injection h2 with h2; rw [h2]; rfl))] at hq
              rw [← Pl.drop_get s (i + 1) h1] at hq
              have HR := Pl.hid (Pl.far_step hq hi1)
              clear hq h39 h92 h39'
              go_wp2_with (at_builtin; refine Mm.wp_app1 _ rfl _ _ (by rfl) w.heap.size _ _ (s[i]'hlt) (by rfl) (by rfl) HO.out (by omega) HB.out.size ?_; intro v1 w1 hown1 hb1)
              have HO1 := Pl.hid hown1
              have HB1 := Pl.hid (HB.out.trans hb1)
              clear hown1 hb1
              go_roundw
              case rel => exact ⟨i + 1, f, acc ++ [s[i]'hlt], by go_num, by omega, by omega, by omega, by simp; omega, HO1, HR, HB1⟩
              case measure => simp [intOf]; omega
          · rw [Pl.sgl_c f (s[i]'hlt) ((Pl.L s).drop (i + 1)) (Pl.u8_no (d := 39) h39 rfl) (fun h => by rw [Pl.drop_end s (i + 1) (by omega)] at h; cases h.2)] at hq
            have HR := Pl.hid (Pl.far_step hq hi1)
            clear hq h39 h92
            go_wp2_with (at_builtin; refine Mm.wp_app1 _ rfl _ _ (by rfl) w.heap.size _ _ (s[i]'hlt) (by rfl) (by rfl) HO.out (by omega) HB.out.size ?_; intro v1 w1 hown1 hb1)
            have HO1 := Pl.hid hown1
            have HB1 := Pl.hid (HB.out.trans hb1)
            clear hown1 hb1
            go_roundw
            case rel => exact ⟨i + 1, f, acc ++ [s[i]'hlt], by go_num, by omega, by omega, by omega, by simp; omega, HO1, HR, HB1⟩
            case measure => simp [intOf]; omega
        · have e92 : (((s[i]'hlt).toNat : Int) == 92) = false := beq_eq_false_iff_ne.2 (by omega)
          rw [Pl.sgl_c f (s[i]'hlt) ((Pl.L s).drop (i + 1)) (Pl.u8_no (d := 39) h39 rfl) (fun h => h92 (by rw [h.1]; rfl))] at hq
          have HR := Pl.hid (Pl.far_step hq hi1)
          clear hq h39 h92
          go_wp2_with (at_builtin; refine Mm.wp_app1 _ rfl _ _ (by rfl) w.heap.size _ _ (s[i]'hlt) (by rfl) (by rfl) HO.out (by omega) HB.out.size ?_; intro v1 w1 hown1 hb1)
          have HO1 := Pl.hid hown1
          have HB1 := Pl.hid (HB.out.trans hb1)
          clear hown1 hb1
          go_roundw
          case rel => exact ⟨i + 1, f, acc ++ [s[i]'hlt], by go_num, by omega, by omega, by omega, by simp; omega, HO1, HR, HB1⟩
          case measure => simp [intOf]; omega
    · have hq := HQ.out
      rw [Pl.drop_end s i (by omega), Pl.sgl_nil] at hq
      have HR := Pl.hid (Pl.far_none hq)
      clear hq
      go_wp2_with fail
      go_ret2
      exact ⟨Pl.ret2si HR.out.1.symm HR.out.2.symm, HB.out⟩
end Go.Proofs.YtgpbgldnaongnaaGreatDoor

namespace Go.Proofs.YtgpbgldnaongnaaGreatDoor
open Go.RowKit
set_option maxRecDepth 20000

namespace Pl
theorem dbl_q (f : Nat) (r : List UInt8) : dbl (f + 1) (34 :: r) = some ([], 1) := by simp [dbl]
theorem dbl_end (f : Nat) : dbl (f + 1) [92] = none := by simp [dbl]
theorem dbl_two (f : Nat) (r : List UInt8) (h : two r = true) : dbl (f + 1) (92 :: 120 :: r) = (dbl f (r.drop 2)).map fun p => (twoV r :: p.1, p.2 + 4) := by simp [dbl, h]
theorem dbl_esc (f : Nat) (d : UInt8) (r : List UInt8) (h : ¬ (d = 120 ∧ two r = true)) : dbl (f + 1) (92 :: d :: r) = (dbl f r).map fun p => (esc d :: p.1, p.2 + 2) := by
  simp only [dbl]
  rw [if_neg (by decide), if_pos (by trivial), if_neg h]
theorem dbl_c (f : Nat) (c : UInt8) (r : List UInt8) (h1 : c ≠ 34) (h2 : c ≠ 92) : dbl (f + 1) (c :: r) = (dbl f r).map fun p => (c :: p.1, p.2 + 1) := by
  simp only [dbl]
  rw [if_neg h1, if_neg h2]
theorem dbl_nil (f : Nat) : dbl f [] = none := by cases f <;> rfl
theorem two_short (s : ByteArray) (i : Nat) (h : ¬ i + 2 < s.size) : two ((L s).drop (i + 1)) = false := by
  by_cases h0 : i + 1 < s.size
  · rw [drop_get s (i + 1) h0, drop_end s (i + 1 + 1) (by omega)]
    rfl
  · rw [drop_end s (i + 1) (by omega)]
    rfl
theorem two_at (s : ByteArray) (i : Nat) (h : i + 2 < s.size) : two ((L s).drop (i + 1)) = (decide (hexV ((s[i + 1]'(by omega)).toNat : Int) < 16) && decide (hexV ((s[i + 2]'h).toNat : Int) < 16)) := by
  rw [drop_get s (i + 1) (by omega), drop_get s (i + 1 + 1) h]
  rfl
theorem twoV_at (s : ByteArray) (i : Nat) (h : i + 2 < s.size) : twoV ((L s).drop (i + 1)) = ofI (hexV ((s[i + 1]'(by omega)).toNat : Int) * 16 + hexV ((s[i + 2]'h).toNat : Int)) := by
  rw [drop_get s (i + 1) (by omega), drop_get s (i + 1 + 1) h]
  rfl
theorem esc_110 : esc 110 = 10 := rfl
theorem esc_114 : esc 114 = 13 := rfl
theorem esc_116 : esc 116 = 9 := rfl
theorem esc_c {c : UInt8} (h1 : c ≠ 110) (h2 : c ≠ 114) (h3 : c ≠ 116) : esc c = c := by unfold esc; rw [if_neg h1, if_neg h2, if_neg h3]
end Pl
theorem Mm.OwnB.drewN {w : World} {b : Nat} {v : Value} {l : List UInt8} (h : Mm.OwnB w b v l) (n : Nat) : Mm.OwnB (w.drewN n) b v l := h

theorem hex_byte (c : UInt8) (w : World) : Calls Tryz.prog 90 #[.int .u8 (c.toNat : Int)] w fun e w' => e = .returned (.int .u8 (Pl.hexV (c.toNat : Int))) ∧ w = w' :=
  hex_walk _ w (by omega) (by have := c.toNat_lt; omega)

set_option maxHeartbeats 4000000 in
theorem double_walk (s : ByteArray) (w : World) (hs : s.size ≤ 140737488351232) :
    Calls Tryz.prog 72 #[.string s] w fun e w' => e = .returned (.tuple #[.string (Pl.qW (Pl.dbO s)), .int .i64 (Pl.qN (Pl.dbO s))]) ∧ Below w.heap.size w w' := by
  go_enter Tryz.func72, Tryz.ntmps72
  go_wp2_with fail
  go_loopw [4, 5] (fun bv iv wr => ∃ (i f : Nat) (acc : List UInt8), iv = .int .i64 i ∧ 1 ≤ i ∧ (i ≤ s.size ∨ i = 1) ∧ s.size ≤ f + i ∧ acc.length + 1 ≤ i ∧ Hid (Mm.OwnB wr w.heap.size bv acc) ∧ Hid (Pl.dbO s = Pl.far (Pl.dbl f ((Pl.L s).drop i)) acc i) ∧ Hid (Below w.heap.size w wr))
    (fun _ i _ => s.size - (intOf i).toNat)
  case atStart => exact ⟨1, s.size, [], rfl, Nat.le_refl _, .inr rfl, by omega, Nat.le_refl _, Mm.ownB_nil _ _, (Pl.far_start _).symm, Below.refl _ _⟩
  case round =>
    obtain ⟨i, f, acc, rfl, hi1, hi2, hf, hacc, HO, HQ, HB⟩ := hrel
    by_cases hlt : i < s.size
    · obtain ⟨f, rfl⟩ : ∃ g, f = g + 1 := ⟨f - 1, by omega⟩
      have hq := HQ.out
      rw [Pl.drop_get s i hlt] at hq
      by_cases h34 : (s[i]'hlt).toNat = 34
      · have e34 : (((s[i]'hlt).toNat : Int) == 34) = true := beq_iff_eq.2 (by omega)
        rw [Pl.u8_is (d := 34) h34 rfl, Pl.dbl_q] at hq
        have HR := Pl.hid (Pl.far_done hq hi1)
        have hcv := Mm.run_str _ _ _ _ HO.out
        clear hq h34 hi2 hf
        go_wp2_with fail
        go_ret2
        exact ⟨Pl.ret2si HR.out.1.symm HR.out.2.symm, HB.out⟩
      · have e34 : (((s[i]'hlt).toNat : Int) == 34) = false := beq_eq_false_iff_ne.2 (by omega)
        by_cases h92 : (s[i]'hlt).toNat = 92
        · have e92 : (((s[i]'hlt).toNat : Int) == 92) = true := beq_iff_eq.2 (by omega)
          rw [Pl.u8_is (d := 92) h92 rfl] at hq
          by_cases h1 : i + 1 < s.size
          · rw [Pl.drop_get s (i + 1) h1] at hq
            by_cases k110 : (s[i + 1]'h1).toNat = 110
            · have x110 : (((s[i + 1]'h1).toNat : Int) == 110) = true := beq_iff_eq.2 (by omega)
              rw [Pl.u8_is (c := s[i + 1]'h1) (d := 110) k110 rfl, Pl.dbl_esc _ _ _ (fun h => absurd h.1 (by decide)), Pl.esc_110] at hq
              have HR := Pl.hid (Pl.far_step hq hi1)
              clear hq h34 h92 k110
              go_wp2_with (at_builtin; refine Mm.wp_appI _ rfl _ _ (by rfl) w.heap.size _ _ (10) (by rfl) (by rfl) HO.out (by omega) (by omega) (by omega) HB.out.size ?_; intro v1 w1 hown1 hb1)
              have HO1 := Pl.hid hown1
              have HB1 := Pl.hid (HB.out.trans hb1)
              clear hown1 hb1
              go_roundw
              case rel => exact ⟨i + 2, f, acc ++ [10], by go_num, by omega, by omega, by omega, by simp; omega, HO1, HR, HB1⟩
              case measure => simp [intOf]; omega
            · have x110 : (((s[i + 1]'h1).toNat : Int) == 110) = false := beq_eq_false_iff_ne.2 (by omega)
              by_cases k114 : (s[i + 1]'h1).toNat = 114
              · have x114 : (((s[i + 1]'h1).toNat : Int) == 114) = true := beq_iff_eq.2 (by omega)
                rw [Pl.u8_is (c := s[i + 1]'h1) (d := 114) k114 rfl, Pl.dbl_esc _ _ _ (fun h => absurd h.1 (by decide)), Pl.esc_114] at hq
                have HR := Pl.hid (Pl.far_step hq hi1)
                clear hq h34 h92 k114
                go_wp2_with (at_builtin; refine Mm.wp_appI _ rfl _ _ (by rfl) w.heap.size _ _ (13) (by rfl) (by rfl) HO.out (by omega) (by omega) (by omega) HB.out.size ?_; intro v1 w1 hown1 hb1)
                have HO1 := Pl.hid hown1
                have HB1 := Pl.hid (HB.out.trans hb1)
                clear hown1 hb1
                go_roundw
                case rel => exact ⟨i + 2, f, acc ++ [13], by go_num, by omega, by omega, by omega, by simp; omega, HO1, HR, HB1⟩
                case measure => simp [intOf]; omega
              · have x114 : (((s[i + 1]'h1).toNat : Int) == 114) = false := beq_eq_false_iff_ne.2 (by omega)
                by_cases k116 : (s[i + 1]'h1).toNat = 116
                · have x116 : (((s[i + 1]'h1).toNat : Int) == 116) = true := beq_iff_eq.2 (by omega)
                  rw [Pl.u8_is (c := s[i + 1]'h1) (d := 116) k116 rfl, Pl.dbl_esc _ _ _ (fun h => absurd h.1 (by decide)), Pl.esc_116] at hq
                  have HR := Pl.hid (Pl.far_step hq hi1)
                  clear hq h34 h92 k116
                  go_wp2_with (at_builtin; refine Mm.wp_appI _ rfl _ _ (by rfl) w.heap.size _ _ (9) (by rfl) (by rfl) HO.out (by omega) (by omega) (by omega) HB.out.size ?_; intro v1 w1 hown1 hb1)
                  have HO1 := Pl.hid hown1
                  have HB1 := Pl.hid (HB.out.trans hb1)
                  clear hown1 hb1
                  go_roundw
                  case rel => exact ⟨i + 2, f, acc ++ [9], by go_num, by omega, by omega, by omega, by simp; omega, HO1, HR, HB1⟩
                  case measure => simp [intOf]; omega
                · have x116 : (((s[i + 1]'h1).toNat : Int) == 116) = false := beq_eq_false_iff_ne.2 (by omega)
                  by_cases k120 : (s[i + 1]'h1).toNat = 120
                  · have x120 : (((s[i + 1]'h1).toNat : Int) == 120) = true := beq_iff_eq.2 (by omega)
                    by_cases h3 : i + 1 + 2 < s.size
                    · have ht := Pl.two_at s (i + 1) h3
                      by_cases y1 : Pl.hexV ((s[i + 1 + 1]'(by omega)).toNat : Int) < 16
                      · by_cases y2 : Pl.hexV ((s[i + 1 + 2]'h3).toNat : Int) < 16
                        · have ht2 : Pl.two ((Pl.L s).drop (i + 1 + 1)) = true := by rw [ht]; exact Bool.and_eq_true_iff.2 ⟨decide_eq_true y1, decide_eq_true y2⟩
                          rw [Pl.u8_is (c := s[i + 1]'h1) (d := 120) k120 rfl, Pl.dbl_two _ _ ht2, Pl.twoV_at s (i + 1) h3, List.drop_drop] at hq
                          have HR := Pl.hid (Pl.far_step hq hi1)
                          obtain ⟨z1, _⟩ := Pl.hexV_bd ((s[i + 1 + 1]'(by omega)).toNat : Int)
                          obtain ⟨z2, _⟩ := Pl.hexV_bd ((s[i + 1 + 2]'h3).toNat : Int)
                          clear hq h34 h92 k110 k114 k116 k120 ht ht2
                          go_wp2_with (go_at_call 90; refine (hex_byte _ _).mono ?_; rintro e w' ⟨rfl, rfl⟩)
                          go_quiet ((go_at_call 90; exact Calls.quiet_of_same ((hex_byte _ _).mono fun e w' ⟨h, h'⟩ => ⟨h, h'.symm⟩)))
                          have HOr := Pl.hid (Pl.hex_or _ _ z1 y1 z2 y2)
                          rw [HOr.out]
                          have HO' : Hid (Mm.OwnB (wr.drewN nq) w.heap.size u4 acc) := HO.out.drewN _
                          have HBq := Pl.hid (HB.out.trans (Mm.below_drewN (B := w.heap.size) wr nq))
                          go_wp2_with (at_builtin; refine Mm.wp_appI _ rfl _ _ (by rfl) w.heap.size _ _ (Pl.hexV ((s[i + 1 + 1]'(by omega)).toNat : Int) * 16 + Pl.hexV ((s[i + 1 + 2]'h3).toNat : Int)) (by rfl) (by rfl) HO'.out (by omega) (by omega) (by omega) HBq.out.size ?_; intro v1 w1 hown1 hb1)
                          have HO1 := Pl.hid hown1
                          have HB1 := Pl.hid (HBq.out.trans hb1)
                          clear hown1 hb1
                          go_roundw
                          case rel => exact ⟨i + 4, f, acc ++ [Pl.ofI (Pl.hexV ((s[i + 1 + 1]'(by omega)).toNat : Int) * 16 + Pl.hexV ((s[i + 1 + 2]'h3).toNat : Int))], by go_num, by omega, by omega, by omega, by simp; omega, HO1, HR, HB1⟩
                          case measure => simp [intOf]; omega
                        · have ht2 : Pl.two ((Pl.L s).drop (i + 1 + 1)) = false := by rw [ht, decide_eq_false y2, Bool.and_false]
                          clear ht
                          rw [Pl.dbl_esc _ _ _ (fun h => absurd h.2 (by rw [ht2]; decide)), Pl.esc_c (Pl.u8_no (d := 110) k110 rfl) (Pl.u8_no (d := 114) k114 rfl) (Pl.u8_no (d := 116) k116 rfl)] at hq
                          have HR := Pl.hid (Pl.far_step hq hi1)
                          clear hq h34 h92 k110 k114 k116 k120
                          go_wp2_with (first | (go_at_call 90; refine (hex_byte _ _).mono ?_; rintro e w' ⟨rfl, rfl⟩) | (at_builtin; refine Mm.wp_app1 _ rfl _ _ (by rfl) w.heap.size _ _ (s[i + 1]'h1) (by rfl) (by rfl) HO.out (by omega) HB.out.size ?_; intro v1 w1 hown1 hb1))
                          have HO1 := Pl.hid hown1
                          have HB1 := Pl.hid (HB.out.trans hb1)
                          clear hown1 hb1
                          go_roundw
                          case rel => exact ⟨i + 2, f, acc ++ [s[i + 1]'h1], by go_num, by omega, by omega, by omega, by simp; omega, HO1, HR, HB1⟩
                          case measure => simp [intOf]; omega
                      · have ht2 : Pl.two ((Pl.L s).drop (i + 1 + 1)) = false := by rw [ht, decide_eq_false y1]; rfl
                        clear ht
                        rw [Pl.dbl_esc _ _ _ (fun h => absurd h.2 (by rw [ht2]; decide)), Pl.esc_c (Pl.u8_no (d := 110) k110 rfl) (Pl.u8_no (d := 114) k114 rfl) (Pl.u8_no (d := 116) k116 rfl)] at hq
                        have HR := Pl.hid (Pl.far_step hq hi1)
                        clear hq h34 h92 k110 k114 k116 k120
                        go_wp2_with (first | (go_at_call 90; refine (hex_byte _ _).mono ?_; rintro e w' ⟨rfl, rfl⟩) | (at_builtin; refine Mm.wp_app1 _ rfl _ _ (by rfl) w.heap.size _ _ (s[i + 1]'h1) (by rfl) (by rfl) HO.out (by omega) HB.out.size ?_; intro v1 w1 hown1 hb1))
                        have HO1 := Pl.hid hown1
                        have HB1 := Pl.hid (HB.out.trans hb1)
                        clear hown1 hb1
                        go_roundw
                        case rel => exact ⟨i + 2, f, acc ++ [s[i + 1]'h1], by go_num, by omega, by omega, by omega, by simp; omega, HO1, HR, HB1⟩
                        case measure => simp [intOf]; omega
                    · have ht2 := Pl.two_short s (i + 1) h3
                      rw [Pl.dbl_esc _ _ _ (fun h => absurd h.2 (by rw [ht2]; decide)), Pl.esc_c (Pl.u8_no (d := 110) k110 rfl) (Pl.u8_no (d := 114) k114 rfl) (Pl.u8_no (d := 116) k116 rfl)] at hq
                      have HR := Pl.hid (Pl.far_step hq hi1)
                      clear hq h34 h92 k110 k114 k116 k120
                      go_wp2_with (first | (go_at_call 90; refine (hex_byte _ _).mono ?_; rintro e w' ⟨rfl, rfl⟩) | (at_builtin; refine Mm.wp_app1 _ rfl _ _ (by rfl) w.heap.size _ _ (s[i + 1]'h1) (by rfl) (by rfl) HO.out (by omega) HB.out.size ?_; intro v1 w1 hown1 hb1))
                      have HO1 := Pl.hid hown1
                      have HB1 := Pl.hid (HB.out.trans hb1)
                      clear hown1 hb1
                      go_roundw
                      case rel => exact ⟨i + 2, f, acc ++ [s[i + 1]'h1], by go_num, by omega, by omega, by omega, by simp; omega, HO1, HR, HB1⟩
                      case measure => simp [intOf]; omega
                  · have x120 : (((s[i + 1]'h1).toNat : Int) == 120) = false := beq_eq_false_iff_ne.2 (by omega)
                    rw [Pl.dbl_esc _ _ _ (fun h => k120 (by rw [h.1]; rfl)), Pl.esc_c (Pl.u8_no (d := 110) k110 rfl) (Pl.u8_no (d := 114) k114 rfl) (Pl.u8_no (d := 116) k116 rfl)] at hq
                    have HR := Pl.hid (Pl.far_step hq hi1)
                    clear hq h34 h92 k110 k114 k116 k120
                    go_wp2_with (at_builtin; refine Mm.wp_app1 _ rfl _ _ (by rfl) w.heap.size _ _ (s[i + 1]'h1) (by rfl) (by rfl) HO.out (by omega) HB.out.size ?_; intro v1 w1 hown1 hb1)
                    have HO1 := Pl.hid hown1
                    have HB1 := Pl.hid (HB.out.trans hb1)
                    clear hown1 hb1
                    go_roundw
                    case rel => exact ⟨i + 2, f, acc ++ [s[i + 1]'h1], by go_num, by omega, by omega, by omega, by simp; omega, HO1, HR, HB1⟩
                    case measure => simp [intOf]; omega
          · rw [Pl.drop_end s (i + 1) (by omega), Pl.dbl_end] at hq
            have HR := Pl.hid (Pl.far_none hq)
            have he : (((i : Int) + 1) == (s.size : Int)) = true := beq_iff_eq.2 (by omega)
            clear hq h34 h92
            go_wp2_with fail
            go_ret2
            exact ⟨Pl.ret2si HR.out.1.symm HR.out.2.symm, HB.out⟩
        · have e92 : (((s[i]'hlt).toNat : Int) == 92) = false := beq_eq_false_iff_ne.2 (by omega)
          rw [Pl.dbl_c f (s[i]'hlt) ((Pl.L s).drop (i + 1)) (Pl.u8_no (d := 34) h34 rfl) (Pl.u8_no (d := 92) h92 rfl)] at hq
          have HR := Pl.hid (Pl.far_step hq hi1)
          clear hq h34 h92
          go_wp2_with (at_builtin; refine Mm.wp_app1 _ rfl _ _ (by rfl) w.heap.size _ _ (s[i]'hlt) (by rfl) (by rfl) HO.out (by omega) HB.out.size ?_; intro v1 w1 hown1 hb1)
          have HO1 := Pl.hid hown1
          have HB1 := Pl.hid (HB.out.trans hb1)
          clear hown1 hb1
          go_roundw
          case rel => exact ⟨i + 1, f, acc ++ [s[i]'hlt], by go_num, by omega, by omega, by omega, by simp; omega, HO1, HR, HB1⟩
          case measure => simp [intOf]; omega
    · have hq := HQ.out
      rw [Pl.drop_end s i (by omega), Pl.dbl_nil] at hq
      have HR := Pl.hid (Pl.far_none hq)
      clear hq
      go_wp2_with fail
      go_ret2
      exact ⟨Pl.ret2si HR.out.1.symm HR.out.2.symm, HB.out⟩
end Go.Proofs.YtgpbgldnaongnaaGreatDoor

namespace Go.Proofs.YtgpbgldnaongnaaGreatDoor
open Go.RowKit
set_option maxRecDepth 20000

theorem Tryz.info_str : (Tryz.prog.info? 9).map (fun i => (i.zero, i.size, i.bytes)) = some (some (.string ⟨#[]⟩), 1, 16) := by kernel_rfl

namespace Mm
open Pl
def strsV (l : List (List UInt8)) : List Value := l.map fun s => .string (B s)
theorem strsV_append (l m : List (List UInt8)) : strsV (l ++ m) = strsV l ++ strsV m := by simp [strsV]
/-- an owned row of texts -/
def OwnS (w : World) (base : Nat) (v : Value) (l : List (List UInt8)) : Prop := w.ownsRow base 9 1 v l.length (strsV l)
theorem ownS_nil (w : World) (b : Nat) : OwnS w b (.slice none 0 0) [] := ⟨rfl, .inl ⟨rfl, rfl⟩⟩
/-- its value is a slice of so many -/
theorem OwnS.val {w : World} {b : Nat} {v : Value} {l : List (List UInt8)} (h : OwnS w b v l) : ∃ a c, v = .slice a l.length c ∧ (l.length = 0 ∧ a = none ∧ c = 0 ∨ ∃ g, a = some ⟨g, 0, none⟩ ∧ b ≤ g ∧ g < w.heap.size ∧ l.length ≤ c) := by
  rcases h.2 with ⟨rfl, h0⟩ | ⟨g, cap, cur, rfl, hb, hg, hle, _⟩
  · exact ⟨none, 0, by rw [h0], .inl ⟨h0, rfl, rfl⟩⟩
  · exact ⟨_, _, rfl, .inr ⟨g, rfl, hb, (Array.getElem?_eq_some_iff.1 hg).1, hle⟩⟩
/-- 'append(words, s)' -/
theorem wp_app1S {ops : Array Oper} {rest : List Oper} {o : Oper} {a : Act} {Q : Exit → Act → World → Prop} (w : World) (hgd : o.guard = none) (x y : Operand)
    (ho : o.op = .call { callee := .builtin .append, args := #[x, y], argTypes := #[39, 39] })
    (base : Nat) (v : Value) (l : List (List UInt8)) (s : ByteArray) (hx : a.eval x = v) (hy : a.eval y = .slice (some ⟨w.heap.size, 0, none⟩) 1 1) (h : OwnS w base v l) (hl : l.length < 8796093022208) (hbase : base ≤ w.heap.size)
    (hK : ∀ v' w', OwnS w' base v' (l ++ [L s]) → Below base w w' → wpList Tryz.prog ops Q rest (a.put o.dst v') w') :
    wpList Tryz.prog ops Q (o :: rest) a (w.alloc (.cells #[.string s] 9)) := by
  obtain ⟨i0, hi, hz0, hz1, hz2⟩ := info_parts Tryz.info_str
  refine wpList_append_own _ hgd x y 39 ho base 9 i0 (.string ⟨#[]⟩) 1 16 Tryz.underlying39 hi hz0 hz1 hz2 rfl (by decide) v l.length (strsV l) hx (h.alloc _) ⟨w.heap.size, 0, none⟩ 1 1 [.string s] hy rfl ?_ ?_ ?_ ?_ ?_ ?_
  · intro j u hj
    match j, hj with
    | 0, hj =>
      simp at hj
      subst hj
      simp [Addr.add]
  · intro u hu
    simp at hu
    subst hu
    rfl
  · unfold maxLen; omega
  · omega
  · simp; omega
  · intro v' w' h1 h2 _
    refine hK v' w' (by unfold OwnS; rw [strsV_append, List.length_append]; simp only [strsV, List.map_cons, List.map_nil, B_L]; exact h1) (((Below.refl _ _).alloc hbase _).grown h2 (by simp; omega) (fun k hk => (h.lt k hk).1))
end Mm

namespace Pl
def blankB (c : UInt8) : Bool := c == 32 || c == 9
theorem nat_ne {c d : UInt8} (h : c ≠ d) (n : Int) (hd : (d.toNat : Int) = n) : ((c.toNat : Int) == n) = false := beq_eq_false_iff_ne.2 fun e => h (UInt8.toNat_inj.1 (by omega))
theorem blank_nat (c : UInt8) : ((c.toNat : Int) == 32 || (c.toNat : Int) == 9) = blankB c := by
  unfold blankB
  by_cases h1 : c = 32
  · subst h1; rfl
  · by_cases h2 : c = 9
    · subst h2; rfl
    · rw [beq_eq_false_iff_ne.2 h1, beq_eq_false_iff_ne.2 h2, nat_ne h1 32 rfl, nat_ne h2 9 rfl]
/-- the first word of a line that does not begin with a blank, and how many bytes it takes -/
def tok (l : List UInt8) : Option (List UInt8 × Nat) :=
  if l.head? = some 34 then (dbl l.length l.tail).map fun p => (p.1, p.2 + 1)
  else if l.head? = some 39 then (sgl l.length l.tail).map fun p => (p.1, p.2 + 1)
  else some (l.takeWhile (fun c => !blankB c), (l.takeWhile (fun c => !blankB c)).length)
/-- the words of a line: 0 and the words, or what is wrong -/
def inl : Nat → List UInt8 → List (List UInt8) → Nat × List (List UInt8)
  | 0, _, _ => (9, [])
  | f + 1, l, acc =>
    match l.dropWhile blankB with
    | [] => (0, acc)
    | c :: r =>
      if acc.length = 1024 then (1, [])
      else match tok (c :: r) with
        | none => (2, [])
        | some p =>
          if ((c :: r).drop p.2).head?.any (fun d => !blankB d) then (2, [])
          else inl f ((c :: r).drop p.2) (acc ++ [p.1])
theorem dbl_le : ∀ (f : Nat) (l : List UInt8) (p : List UInt8 × Nat), dbl f l = some p → p.2 ≤ l.length ∧ 1 ≤ p.2
  | 0, _, _, h => by cases h
  | f + 1, [], _, h => by cases h
  | f + 1, c :: r, p, h => by
    by_cases h1 : c = 34
    · subst h1
      rw [dbl_q] at h
      injection h with h
      subst h
      simp
    · by_cases h2 : c = 92
      · subst h2
        cases r with
        | nil => rw [dbl_end] at h; cases h
        | cons d r2 =>
          by_cases h3 : d = 120 ∧ two r2 = true
          · obtain ⟨rfl, h3⟩ := h3
            rw [dbl_two _ _ h3] at h
            cases hq : dbl f (r2.drop 2) with
            | none => rw [hq] at h; cases h
            | some q =>
              rw [hq] at h
              injection h with h
              subst h
              have := dbl_le f _ q hq
              have h4 : 2 ≤ r2.length := by
                match r2, h3 with
                | a :: b :: _, _ => simp
              rw [List.length_drop] at this
              simp
              omega
          · rw [dbl_esc _ _ _ h3] at h
            cases hq : dbl f r2 with
            | none => rw [hq] at h; cases h
            | some q =>
              rw [hq] at h
              injection h with h
              subst h
              have := dbl_le f _ q hq
              simp
              omega
      · rw [dbl_c _ _ _ h1 h2] at h
        cases hq : dbl f r with
        | none => rw [hq] at h; cases h
        | some q =>
          rw [hq] at h
          injection h with h
          subst h
          have := dbl_le f _ q hq
          simp
          omega
theorem sgl_le : ∀ (f : Nat) (l : List UInt8) (p : List UInt8 × Nat), sgl f l = some p → p.2 ≤ l.length ∧ 1 ≤ p.2
  | 0, _, _, h => by cases h
  | f + 1, [], _, h => by cases h
  | f + 1, c :: r, p, h => by
    by_cases h1 : c = 39
    · subst h1
      rw [sgl_q] at h
      injection h with h
      subst h
      simp
    · by_cases h2 : c = 92 ∧ r.head? = some 39
      · obtain ⟨rfl, h2⟩ := h2
        cases r with
        | nil => cases h2
        | cons d r2 =>
          obtain rfl : d = 39 := by simpa using h2
          rw [sgl_e] at h
          cases hq : sgl f r2 with
          | none => rw [hq] at h; cases h
          | some q =>
            rw [hq] at h
            injection h with h
            subst h
            have := sgl_le f _ q hq
            simp
            omega
      · rw [sgl_c _ _ _ h1 h2] at h
        cases hq : sgl f r with
        | none => rw [hq] at h; cases h
        | some q =>
          rw [hq] at h
          injection h with h
          subst h
          have := sgl_le f _ q hq
          simp
          omega
end Pl
end Go.Proofs.YtgpbgldnaongnaaGreatDoor

namespace Go.Proofs.YtgpbgldnaongnaaGreatDoor
open Go.RowKit
set_option maxRecDepth 20000

theorem Mm.OwnS.below {w w' : World} {b : Nat} {v : Value} {l : List (List UInt8)} (h : Mm.OwnS w b v l) (hb : Below w.heap.size w w') : Mm.OwnS w' b v l := by
  obtain ⟨hl, h0 | ⟨g, cap, cur, hv, hg, hh, r⟩⟩ := h
  · exact ⟨hl, .inl h0⟩
  · exact ⟨hl, .inr ⟨g, cap, cur, hv, hg, by rw [hb.block g (Array.getElem?_eq_some_iff.1 hh).1]; exact hh, r⟩⟩

namespace Pl
theorem inl_ok {f : Nat} {l : List UInt8} {acc ws : List (List UInt8)} (h : inl f l acc = (0, ws)) :
    (l.dropWhile blankB = [] ∧ ws = acc) ∨ ∃ (g : Nat) (p : List UInt8 × Nat), l.dropWhile blankB ≠ [] ∧ acc.length ≠ 1024 ∧ tok (l.dropWhile blankB) = some p ∧ ((l.dropWhile blankB).drop p.2).head?.any (fun d => !blankB d) = false ∧ inl g ((l.dropWhile blankB).drop p.2) (acc ++ [p.1]) = (0, ws) := by
  cases f with
  | zero => simp [inl] at h
  | succ f =>
    unfold inl at h
    cases hd : l.dropWhile blankB with
    | nil =>
      rw [hd] at h
      simp at h
      exact .inl ⟨rfl, h.symm⟩
    | cons c r =>
      rw [hd] at h
      simp only at h
      right
      by_cases h1 : acc.length = 1024
      · rw [if_pos h1] at h
        simp at h
      · rw [if_neg h1] at h
        cases ht : tok (c :: r) with
        | none =>
          rw [ht] at h
          simp at h
        | some p =>
          rw [ht] at h
          simp only at h
          cases hb : ((c :: r).drop p.2).head?.any (fun d => !blankB d) with
          | true =>
            rw [hb] at h
            simp at h
          | false =>
            rw [hb] at h
            exact ⟨f, p, by simp, h1, rfl, hb, by simpa using h⟩
def strSz : Value → Nat | .string s => s.size | _ => 0
theorem ext_drop (s : ByteArray) (n : Nat) : L (s.extract n s.size) = (L s).drop n := by
  rw [extract_B, L_B]
  unfold slc
  rw [List.take_of_length_le (by rw [List.length_drop, L_length]; exact Nat.le_refl _)]
theorem ext_take (s : ByteArray) (n : Nat) : s.extract 0 n = B ((L s).take n) := by
  rw [extract_B]
  rfl
theorem ext_size (s : ByteArray) (n : Nat) : (s.extract n s.size).size = s.size - n := by
  rw [← L_length, ext_drop, List.length_drop, L_length]
theorem drop_blank {s : ByteArray} (h : 0 < s.size) (hb : blankB (s[0]'h) = true) : (L (s.extract 1 s.size)).dropWhile blankB = (L s).dropWhile blankB := by
  rw [ext_drop]
  have h1 := drop_get s 0 h
  rw [List.drop_zero] at h1
  rw [h1, List.dropWhile_cons, if_pos hb]
  rfl
theorem drop_word {s : ByteArray} (h : 0 < s.size) (hb : blankB (s[0]'h) = false) : (L s).dropWhile blankB = L s := by
  have h1 := drop_get s 0 h
  rw [List.drop_zero] at h1
  rw [h1, List.dropWhile_cons, if_neg (by rw [hb]; decide)]
theorem tok_34 {s : ByteArray} {p : List UInt8 × Nat} (hh : (L s).head? = some 34) (h : tok (L s) = some p) : qW (dbO s) = B p.1 ∧ qN (dbO s) = (p.2 : Int) ∧ 1 ≤ p.2 ∧ p.2 ≤ s.size := by
  unfold tok at h
  rw [if_pos hh, L_length] at h
  have e : dbO s = dbl s.size (L s).tail := by
    unfold dbO
    rw [List.drop_one]
  cases hq : dbl s.size (L s).tail with
  | none => rw [hq] at h; cases h
  | some q =>
    rw [hq] at h
    injection h with h
    subst h
    have h1 := dbl_le _ _ _ hq
    have h2 := L_length s
    rw [e, hq]
    refine ⟨rfl, rfl, Nat.succ_le_succ (Nat.zero_le _), ?_⟩
    rw [List.length_tail, h2] at h1
    have h3 : 0 < s.size := by
      rcases Nat.eq_zero_or_pos s.size with h0 | h0
      · rw [List.eq_nil_of_length_eq_zero (h2.trans h0)] at hh
        cases hh
      · exact h0
    simp only
    omega
theorem tok_39 {s : ByteArray} {p : List UInt8 × Nat} (hh : (L s).head? = some 39) (h : tok (L s) = some p) : qW (sgO s) = B p.1 ∧ qN (sgO s) = (p.2 : Int) ∧ 1 ≤ p.2 ∧ p.2 ≤ s.size := by
  unfold tok at h
  rw [if_neg (by rw [hh]; decide), if_pos hh, L_length] at h
  have e : sgO s = sgl s.size (L s).tail := by
    unfold sgO
    rw [List.drop_one]
  cases hq : sgl s.size (L s).tail with
  | none => rw [hq] at h; cases h
  | some q =>
    rw [hq] at h
    injection h with h
    subst h
    have h1 := sgl_le _ _ _ hq
    have h2 := L_length s
    rw [e, hq]
    refine ⟨rfl, rfl, Nat.succ_le_succ (Nat.zero_le _), ?_⟩
    rw [List.length_tail, h2] at h1
    have h3 : 0 < s.size := by
      rcases Nat.eq_zero_or_pos s.size with h0 | h0
      · rw [List.eq_nil_of_length_eq_zero (h2.trans h0)] at hh
        cases hh
      · exact h0
    simp only
    omega
theorem take_while {l : List UInt8} {p : UInt8 → Bool} : ∀ {k : Nat}, k ≤ l.length → (∀ j, (hj : j < l.length) → j < k → p (l[j]'hj) = true) → (∀ h : k < l.length, p (l[k]'h) = false) → l.takeWhile p = l.take k := by
  induction l with
  | nil => intro k _ _ _; simp
  | cons c r ih =>
    intro k hk h1 h2
    cases k with
    | zero =>
      have := h2 (by simp)
      simp at this
      simp [this]
    | succ k =>
      have h0 := h1 0 (by simp) (by omega)
      simp at h0
      rw [List.takeWhile_cons, if_pos h0, List.take_succ_cons]
      congr 1
      refine ih (by simpa using hk) (fun j hj hjk => ?_) (fun h => ?_)
      · have := h1 (j + 1) (by simp; omega) (by omega)
        simpa using this
      · have := h2 (by simp; omega)
        simpa using this
theorem L_at (s : ByteArray) (k : Nat) (h : k < s.size) (h' : k < (L s).length) : (L s)[k]'h' = s[k]'h := by
  have h1 := get_L s k h
  rw [List.getElem?_eq_getElem h'] at h1
  injection h1
theorem tok_plain {s : ByteArray} {p : List UInt8 × Nat} {k : Nat} (h34 : (L s).head? ≠ some 34) (h39 : (L s).head? ≠ some 39) (h : tok (L s) = some p) (hk : k ≤ s.size) (h1 : ∀ j, (hj : j < s.size) → j < k → blankB (s[j]'hj) = false)
    (h2 : ∀ h : k < s.size, blankB (s[k]'h) = true) : p.2 = k ∧ B p.1 = s.extract 0 k := by
  unfold tok at h
  rw [if_neg h34, if_neg h39] at h
  have e : (L s).takeWhile (fun c => !blankB c) = (L s).take k := by
    refine take_while (by rw [L_length]; exact hk) (fun j hj hjk => ?_) (fun h => ?_)
    · have hj' : j < s.size := by rw [← L_length]; exact hj
      rw [L_at s j hj' hj, h1 j hj' hjk]
      rfl
    · have h' : k < s.size := by rw [← L_length]; exact h
      rw [L_at s k h' h, h2 h']
      rfl
  injection h with h
  subst h
  simp only
  rw [e, ext_take, List.length_take, L_length]
  exact ⟨by omega, rfl⟩
theorem head_drop {s : ByteArray} {n : Nat} (h : n < s.size) (hb : ((L s).drop n).head?.any (fun d => !blankB d) = false) : blankB (s[n]'h) = true := by
  rw [drop_get s n h] at hb
  simpa using hb
end Pl

theorem blank_byte (c : UInt8) (w : World) : Calls Tryz.prog 71 #[.int .u8 (c.toNat : Int)] w fun e w' => e = .returned (.bool (Pl.blankB c)) ∧ w = w' := by
  rw [← Pl.blank_nat]
  exact blank_walk _ w (by omega) (by have := c.toNat_lt; omega)

set_option maxHeartbeats 8000000 in
theorem inline_ok (s : ByteArray) (f0 : Nat) (ws : List (List UInt8)) (w : World) (hs : s.size ≤ 4096) (hin : Pl.inl f0 (Pl.L s) [] = (0, ws)) :
    Calls Tryz.prog 52 #[.string s] w fun e w' => ∃ v, e = .returned (.tuple #[v, .nilIface]) ∧ Mm.OwnS w' w.heap.size v ws ∧ Below w.heap.size w w' := by
  have HIN := Pl.hid hin
  clear hin
  go_enter Tryz.func52, Tryz.ntmps52
  go_wp2_with fail
  go_loopw [0, 4] (fun lv wv wr => ∃ (l : ByteArray) (f : Nat) (acc : List (List UInt8)), lv = .string l ∧ l.size ≤ 4096 ∧ Hid (Mm.OwnS wr w.heap.size wv acc) ∧ Hid (Pl.inl f (Pl.L l) acc = (0, ws)) ∧ acc.length ≤ 1024 ∧ Hid (Below w.heap.size w wr)) (fun lv _ _ => Pl.strSz lv)
  case atStart => exact ⟨s, f0, [], rfl, hs, Mm.ownS_nil _ _, HIN, by decide, Below.refl _ _⟩
  case round =>
    obtain ⟨l, f, acc, rfl, hl, HO, HQ, hacc, HB⟩ := hrel
    go_wp2_with fail
    go_loop [0] (fun mv => ∃ m : ByteArray, mv = .string m ∧ m.size ≤ l.size ∧ Hid ((Pl.L m).dropWhile Pl.blankB = (Pl.L l).dropWhile Pl.blankB)) (fun mv => Pl.strSz mv)
    case atStart => exact ⟨l, rfl, Nat.le_refl _, rfl⟩
    case round =>
      obtain ⟨m, rfl, hm, HM⟩ := hrel
      rcases Nat.eq_zero_or_pos m.size with h0 | hpos
      · obtain rfl : m = ⟨#[]⟩ := Pl.ba_ext (List.eq_nil_of_length_eq_zero (by rw [Pl.L_length]; exact h0))
        have HW : Hid (ws = acc) := by
          have hm2 := HM.out
          rw [show (Pl.L ⟨#[]⟩).dropWhile Pl.blankB = [] from rfl] at hm2
          rcases Pl.inl_ok HQ.out with ⟨_, h⟩ | ⟨_, _, h, _⟩
          · exact h
          · exact absurd hm2.symm h
        clear h0
        go_wp2_with fail
        go_ret2
        exact ⟨_, rfl, by rw [HW.out]; exact HO.out, HB.out⟩
      · have he := Pl.toL_full hpos
        cases hb : Pl.blankB (m[0]'hpos) with
        | true =>
          have HM2 := Pl.hid ((Pl.drop_blank hpos hb).trans HM.out)
          have HZ := Pl.hid (Pl.ext_size m 1)
          go_wp2_with (go_at_call 71; refine (blank_byte _ _).mono ?_; rw [hb]; rintro e w' ⟨rfl, rfl⟩)
          go_round
          case rel => exact ⟨_, rfl, by rw [HZ.out]; omega, HM2⟩
          case measure => simp only [Pl.strSz]; rw [HZ.out]; omega
        | false =>
          have HD := Pl.hid ((Pl.drop_word hpos hb).symm.trans HM.out)
          obtain ⟨av, cv, rfl, hval⟩ := HO.out.val
          have HVal := Pl.hid hval
          clear hval
          rcases Pl.inl_ok HQ.out with ⟨h, _⟩ | ⟨g, ⟨pw, n⟩, h1, h2, h3, h4, h5⟩
          · rw [← HD.out] at h
            exact absurd h (List.ne_nil_of_length_pos (by rw [Pl.L_length]; exact hpos))
          rw [← HD.out] at h3 h4 h5
          have hne : ((acc.length : Int) == 1024) = false := beq_eq_false_iff_ne.2 (by omega)
          have hacc' : acc.length < 1024 := by omega
          have H3 := Pl.hid h3
          have H4 := Pl.hid h4
          have H5 := Pl.hid h5
          have HH := Pl.hid (Pl.head_L m hpos)
          clear h1 h2 h3 h4 h5 hacc
          by_cases h34 : (m[0]'hpos).toNat = 34
          · skip
            have HT := Pl.hid (Pl.tok_34 (s := m) (by rw [HH.out]; congr 1; exact Pl.u8_is (d := 34) h34 rfl) H3.out)
            have hn1 : 1 ≤ n := HT.out.2.2.1
            have hn2 : n ≤ m.size := HT.out.2.2.2
            have HWp : Hid (Pl.L (Pl.B pw) = pw) := Pl.L_B _
            have e34 : (((m[0]'hpos).toNat : Int) == 34) = true := beq_iff_eq.2 (by omega)
            clear h34
            go_wp2_with (go_at_call 71; refine (blank_byte _ _).mono ?_; rw [hb]; rintro e w' ⟨rfl, rfl⟩)
            refine (double_walk m _ (by omega)).mono ?_
            rw [HT.out.1, HT.out.2.1]
            rintro e w1 ⟨rfl, hb1⟩
            have HO1 := Pl.hid (HO.out.below hb1)
            have HB1 := Pl.hid (HB.out.trans (hb1.mono HB.out.size))
            clear hb1
            rcases Nat.lt_or_ge n m.size with hnl | hnl
            · have hbn := Pl.head_drop hnl H4.out
              go_wp2_with (first | (go_at_call 71; refine (blank_byte _ _).mono ?_; rw [hbn]; rintro e w' ⟨rfl, rfl⟩) | (at_builtin; refine Mm.wp_app1S _ rfl _ _ (by rfl) w.heap.size _ acc (Pl.B pw) (by rfl) (by rfl) HO1.out (by omega) HB1.out.size ?_; intro v2 w2 hown2 hb2))
              have HO2 := Pl.hid hown2
              have HB2 := Pl.hid (HB1.out.trans hb2)
              clear hown2 hb2
              go_roundw
              case rel => exact ⟨_, g, acc ++ [Pl.L (Pl.B pw)], rfl, by rw [Pl.ext_size]; omega, HO2, (by show _ = _; rw [HWp.out, Pl.ext_drop]; exact H5.out), by simp; omega, HB2⟩
              case measure => simp only [Pl.strSz]; rw [Pl.ext_size]; omega
            · go_wp2_with (at_builtin; refine Mm.wp_app1S _ rfl _ _ (by rfl) w.heap.size _ acc (Pl.B pw) (by rfl) (by rfl) HO1.out (by omega) HB1.out.size ?_; intro v2 w2 hown2 hb2)
              have HO2 := Pl.hid hown2
              have HB2 := Pl.hid (HB1.out.trans hb2)
              clear hown2 hb2
              go_roundw
              case rel => exact ⟨_, g, acc ++ [Pl.L (Pl.B pw)], rfl, by rw [Pl.ext_size]; omega, HO2, (by show _ = _; rw [HWp.out, Pl.ext_drop]; exact H5.out), by simp; omega, HB2⟩
              case measure => simp only [Pl.strSz]; rw [Pl.ext_size]; omega
          · have e34 : (((m[0]'hpos).toNat : Int) == 34) = false := beq_eq_false_iff_ne.2 (by omega)
            by_cases h39 : (m[0]'hpos).toNat = 39
            · skip
              have HT := Pl.hid (Pl.tok_39 (s := m) (by rw [HH.out]; congr 1; exact Pl.u8_is (d := 39) h39 rfl) H3.out)
              have hn1 : 1 ≤ n := HT.out.2.2.1
              have hn2 : n ≤ m.size := HT.out.2.2.2
              have HWp : Hid (Pl.L (Pl.B pw) = pw) := Pl.L_B _
              have e39 : (((m[0]'hpos).toNat : Int) == 39) = true := beq_iff_eq.2 (by omega)
              clear h34 h39
              go_wp2_with (go_at_call 71; refine (blank_byte _ _).mono ?_; rw [hb]; rintro e w' ⟨rfl, rfl⟩)
              refine (single_walk m _ (by omega)).mono ?_
              rw [HT.out.1, HT.out.2.1]
              rintro e w1 ⟨rfl, hb1⟩
              have HO1 := Pl.hid (HO.out.below hb1)
              have HB1 := Pl.hid (HB.out.trans (hb1.mono HB.out.size))
              clear hb1
              rcases Nat.lt_or_ge n m.size with hnl | hnl
              · have hbn := Pl.head_drop hnl H4.out
                go_wp2_with (first | (go_at_call 71; refine (blank_byte _ _).mono ?_; rw [hbn]; rintro e w' ⟨rfl, rfl⟩) | (at_builtin; refine Mm.wp_app1S _ rfl _ _ (by rfl) w.heap.size _ acc (Pl.B pw) (by rfl) (by rfl) HO1.out (by omega) HB1.out.size ?_; intro v2 w2 hown2 hb2))
                have HO2 := Pl.hid hown2
                have HB2 := Pl.hid (HB1.out.trans hb2)
                clear hown2 hb2
                go_roundw
                case rel => exact ⟨_, g, acc ++ [Pl.L (Pl.B pw)], rfl, by rw [Pl.ext_size]; omega, HO2, (by show _ = _; rw [HWp.out, Pl.ext_drop]; exact H5.out), by simp; omega, HB2⟩
                case measure => simp only [Pl.strSz]; rw [Pl.ext_size]; omega
              · go_wp2_with (at_builtin; refine Mm.wp_app1S _ rfl _ _ (by rfl) w.heap.size _ acc (Pl.B pw) (by rfl) (by rfl) HO1.out (by omega) HB1.out.size ?_; intro v2 w2 hown2 hb2)
                have HO2 := Pl.hid hown2
                have HB2 := Pl.hid (HB1.out.trans hb2)
                clear hown2 hb2
                go_roundw
                case rel => exact ⟨_, g, acc ++ [Pl.L (Pl.B pw)], rfl, by rw [Pl.ext_size]; omega, HO2, (by show _ = _; rw [HWp.out, Pl.ext_drop]; exact H5.out), by simp; omega, HB2⟩
                case measure => simp only [Pl.strSz]; rw [Pl.ext_size]; omega
            · have e39 : (((m[0]'hpos).toNat : Int) == 39) = false := beq_eq_false_iff_ne.2 (by omega)
              have N34 : Hid ((Pl.L m).head? ≠ some 34) := fun h => h34 (by rw [HH.out] at h; injection h with h; rw [h]; rfl)
              have N39 : Hid ((Pl.L m).head? ≠ some 39) := fun h => h39 (by rw [HH.out] at h; injection h with h; rw [h]; rfl)
              clear h34 h39
              go_wp2_with (go_at_call 71; refine (blank_byte _ _).mono ?_; rw [hb]; rintro e w' ⟨rfl, rfl⟩)
              clear e34 e39 he hne
              go_loop [6] (fun nv => ∃ k : Nat, nv = .int .i64 k ∧ k ≤ m.size ∧ (k = 0 → 0 < m.size) ∧ Hid (∀ j, (hj : j < m.size) → j < k → Pl.blankB (m[j]'hj) = false)) (fun nv => m.size - (intOf nv).toNat)
              case atStart => exact ⟨0, rfl, Nat.zero_le _, fun _ => hpos, fun j hj h => by omega⟩
              case round =>
                obtain ⟨k, rfl, hk, _, HK⟩ := hrel
                rcases Nat.lt_or_ge k m.size with hkl | hkl
                · cases hbk : Pl.blankB (m[k]'hkl) with
                  | false =>
                    go_wp2_with (go_at_call 71; refine (blank_byte _ _).mono ?_; rw [hbk]; rintro e w' ⟨rfl, rfl⟩)
                    go_round
                    case rel => exact ⟨k + 1, by go_num, by omega, fun _ => hpos, fun j hj h => by
                      rcases Nat.lt_or_ge j k with h' | h'
                      · exact HK.out j hj h'
                      · obtain rfl : j = k := by omega
                        exact hbk⟩
                    case measure => simp [intOf]; omega
                  | true =>
                    have HT := Pl.hid (Pl.tok_plain N34.out N39.out H3.out hk HK.out (fun _ => hbk))
                    have hn1 : 1 ≤ k := by
                      rcases Nat.eq_zero_or_pos k with h | h
                      · subst h
                        rw [hb] at hbk
                        cases hbk
                      · exact h
                    have HWp : Hid (Pl.L (m.extract 0 k) = pw) := by
                      show _ = _
                      rw [← HT.out.2, Pl.L_B]
                    have HNK : Hid (n = k) := HT.out.1
                    rw [HNK.out] at H4 H5
                    clear hbk
                    have hnl := hkl
                    have hbn := Pl.head_drop hnl H4.out
                    go_wp2_with (first | (go_at_call 71; refine (blank_byte _ _).mono ?_; rw [hbn]; rintro e w' ⟨rfl, rfl⟩) | (at_builtin; refine Mm.wp_app1S _ rfl _ _ (by rfl) w.heap.size _ acc (m.extract 0 k) (by rfl) (by rfl) HO.out (by omega) HB.out.size ?_; intro v2 w2 hown2 hb2))
                    have HO2 := Pl.hid hown2
                    have HB2 := Pl.hid (HB.out.trans hb2)
                    clear hown2 hb2
                    go_roundw
                    case rel => exact ⟨_, g, acc ++ [Pl.L (m.extract 0 k)], rfl, by rw [Pl.ext_size]; omega, HO2, (by show _ = _; rw [HWp.out, Pl.ext_drop]; exact H5.out), by simp; omega, HB2⟩
                    case measure => simp only [Pl.strSz]; rw [Pl.ext_size]; omega
                · have HT := Pl.hid (Pl.tok_plain N34.out N39.out H3.out hk HK.out (fun h => by omega))
                  have hn1 : 1 ≤ k := by omega
                  have HWp : Hid (Pl.L (m.extract 0 k) = pw) := by
                    show _ = _
                    rw [← HT.out.2, Pl.L_B]
                  have HNK : Hid (n = k) := HT.out.1
                  rw [HNK.out] at H4 H5
                  go_wp2_with (at_builtin; refine Mm.wp_app1S _ rfl _ _ (by rfl) w.heap.size _ acc (m.extract 0 k) (by rfl) (by rfl) HO.out (by omega) HB.out.size ?_; intro v2 w2 hown2 hb2)
                  have HO2 := Pl.hid hown2
                  have HB2 := Pl.hid (HB.out.trans hb2)
                  clear hown2 hb2
                  go_roundw
                  case rel => exact ⟨_, g, acc ++ [Pl.L (m.extract 0 k)], rfl, by rw [Pl.ext_size]; omega, HO2, (by show _ = _; rw [HWp.out, Pl.ext_drop]; exact H5.out), by simp; omega, HB2⟩
                  case measure => simp only [Pl.strSz]; rw [Pl.ext_size]; omega
end Go.Proofs.YtgpbgldnaongnaaGreatDoor

namespace Go.Proofs.YtgpbgldnaongnaaGreatDoor
open Go.RowKit
set_option maxRecDepth 20000

namespace Mm
open Pl
/-- the bytes of a list stand at a place -/
def BytesAt (w : World) (g o : Nat) (l : List UInt8) : Prop := ∀ j, j < l.length → w.cell? ⟨g, o + j, none⟩ = some (.int .u8 (at_ l j))
theorem BytesAt.keep {w w' : World} {g o : Nat} {l : List UInt8} (h : BytesAt w g o l) (hb : w'.heap[g]? = w.heap[g]?) : BytesAt w' g o l := fun j hj => by
  rw [World.cell?_of_block (w := w) (a := ⟨g, o + j, none⟩) hb]
  exact h j hj
theorem BytesAt.lt {w : World} {g o : Nat} {l : List UInt8} (h : BytesAt w g o l) (h0 : 0 < l.length) : g < w.heap.size := World.block_lt_of_cell? _ _ (h 0 h0)
theorem OwnB.bytesAt {w : World} {b g n c : Nat} {l : List UInt8} (h : OwnB w b (.slice (some ⟨g, 0, none⟩) n c) l) : BytesAt w g 0 l := fun j hj => by
  have := h.cells (g := g) rfl j (byteV (l[j]'hj)) (by simp [bytesV, List.getElem?_eq_getElem hj])
  have e : (⟨g, 0, none⟩ : Addr).add j = ⟨g, j, none⟩ := by unfold Addr.add; split <;> simp_all
  rw [e] at this
  rw [Nat.zero_add, this]
  unfold byteV at_
  rw [List.getD_eq_getElem?_getD, List.getElem?_eq_getElem hj]
  rfl
theorem OwnB.val {w : World} {b : Nat} {v : Value} {l : List UInt8} (h : OwnB w b v l) : ∃ a c, v = .slice a l.length c ∧ (l.length = 0 ∧ a = none ∧ c = 0 ∨ ∃ g, a = some ⟨g, 0, none⟩ ∧ b ≤ g ∧ g < w.heap.size ∧ l.length ≤ c) := by
  rcases h.2 with ⟨rfl, h0⟩ | ⟨g, cap, cur, rfl, hb, hg, hle, _⟩
  · exact ⟨none, 0, by rw [h0], .inl ⟨h0, rfl, rfl⟩⟩
  · exact ⟨_, _, rfl, .inr ⟨g, rfl, hb, (Array.getElem?_eq_some_iff.1 hg).1, hle⟩⟩
theorem OwnB.keep {w w' : World} {b : Nat} {v : Value} {l : List UInt8} (h : OwnB w b v l) (hb : ∀ g, v.ownBlock = some g → w'.heap[g]? = w.heap[g]?) : OwnB w' b v l := by
  obtain ⟨hl, h0 | ⟨g, cap, cur, hv, hg, hh, r⟩⟩ := h
  · exact ⟨hl, .inl h0⟩
  · exact ⟨hl, .inr ⟨g, cap, cur, hv, hg, by rw [hb g (by rw [hv]; rfl)]; exact hh, r⟩⟩
theorem OwnS.keep {w w' : World} {b : Nat} {v : Value} {l : List (List UInt8)} (h : OwnS w b v l) (hb : ∀ g, v.ownBlock = some g → w'.heap[g]? = w.heap[g]?) : OwnS w' b v l := by
  obtain ⟨hl, h0 | ⟨g, cap, cur, hv, hg, hh, r⟩⟩ := h
  · exact ⟨hl, .inl h0⟩
  · exact ⟨hl, .inr ⟨g, cap, cur, hv, hg, by rw [hb g (by rw [hv]; rfl)]; exact hh, r⟩⟩

/-- 'append(s, b...)': bytes at a place behind an owned row -/
theorem wp_appB {ops : Array Oper} {rest : List Oper} {o : Oper} {a : Act} {Q : Exit → Act → World → Prop} (w : World) (hgd : o.guard = none) (x y : Operand)
    (ho : o.op = .call { callee := .builtin .append, args := #[x, y], argTypes := #[23, 23] })
    (base : Nat) (v : Value) (l : List UInt8) (hx : a.eval x = v) (h : OwnB w base v l) (g off c : Nat) (m : List UInt8) (n : Nat) (hn : n = m.length) (hy : a.eval y = .slice (some ⟨g, off, none⟩) n c) (hm : BytesAt w g off m)
    (hl : l.length + m.length ≤ 140737488355328) (hbase : base ≤ w.heap.size)
    (hK : ∀ v' w', OwnB w' base v' (l ++ m) → w.grownBy w' v.ownBlock → wpList Tryz.prog ops Q rest (a.put o.dst v') w') :
    wpList Tryz.prog ops Q (o :: rest) a w := by
  subst hn
  obtain ⟨i0, hi, hz0, hz1, hz2⟩ := info_parts Tryz.info_u8
  refine wpList_append_own _ hgd x y 23 ho base 5 i0 (.int .u8 0) 1 1 Tryz.underlying23 hi hz0 hz1 hz2 rfl (by decide) v l.length (bytesV l) hx h ⟨g, off, none⟩ m.length c (bytesV m) hy (by simp [bytesV]) ?_ (bytesV_one m) ?_ (by omega) hbase ?_
  · intro j u hj
    have hj' : j < m.length := by
      have := (List.getElem?_eq_some_iff.1 hj).1
      simpa [bytesV] using this
    have e : (⟨g, off, none⟩ : Addr).add j = ⟨g, off + j, none⟩ := by unfold Addr.add; split <;> simp_all
    rw [e, hm j hj']
    simp only [bytesV, List.getElem?_map, List.getElem?_eq_getElem hj', Option.map_some, Option.some.injEq] at hj
    rw [← hj]
    unfold at_ byteV
    rw [List.getD_eq_getElem?_getD, List.getElem?_eq_getElem hj']
    rfl
  · unfold maxLen; omega
  · intro v' w' h1 h2 _
    refine hK v' w' ?_ h2
    unfold OwnB
    rw [bytesV_append, List.length_append]
    exact h1

/-- a store into one cell of a block -/
theorem wp_storeF {ops : Array Oper} {rest : List Oper} {op : Oper} {a : Act} {Q : Exit → Act → World → Prop} (w : World) (hgd : op.guard = none) (t : TypeId) (x y : Operand) (ho : op.op = .store t x y)
    (hsz : (Tryz.prog.info? t).map (·.size) = some 1) (p i : Nat) (T : TypeId) (cs : Array Value) (v : Value) (h : w.heap[p]? = some (.cells cs T (0, 0))) (hx : a.eval x = .pointer (some ⟨p, i, none⟩)) (hy : a.eval y = v) (hi : i < cs.size) (hv : v.cells = #[v]) (h1 : v.oneCell' = true)
    (hK : ∀ w', w'.heap[p]? = some (.cells (cs.setIfInBounds i v) T (0, 0)) → w'.heap.size = w.heap.size → w.grownBy w' (some p) → wpList Tryz.prog ops Q rest (a.put op.dst undef) w') : wpList Tryz.prog ops Q (op :: rest) a w := by
  refine wpList_plain hgd fun K hK' => ?_
  obtain ⟨i0, hi0, hz1⟩ := Option.map_eq_some_iff.1 hsz
  have hst := run_storeCells_at Tryz.prog p i T [v] 0 _ w h (by simp; omega) (by intro u hu; simp at hu; subst hu; exact h1)
  have hrun : (Instr.storeAt t (.pointer (some ⟨p, i, none⟩)) v).run Tryz.prog w =
      .ok () (w.setRow p (cs.toList.take i ++ [v] ++ cs.toList.drop (i + 1)).toArray) := by
    simp only [Nat.add_zero] at hst
    simp [Instr.storeAt, Instr.sureAddr, storeVar, sizeOf, typeInfo, hi0, hz1, hv]
    rw [hst]
    simp
  unfold Oper.wp execOp
  simp only [ho, hx, hy, Sem.run_bind, Sem.run_pure, Result.andThen_ok, hrun]
  refine hK' _ _ (hK _ ?_ (by simp [World.setRow]) ⟨rfl, rfl, rfl, by simp [World.setRow], fun k _ hk => setRow_other w p k _ (fun e => hk (by rw [e]))⟩)
  rw [setRow_heap w p _ _ _ _ h]
  congr 2
  apply Array.ext'
  rw [Array.toList_setIfInBounds]
  rw [List.set_eq_take_append_cons_drop]
  simp [hi]
end Mm
end Go.Proofs.YtgpbgldnaongnaaGreatDoor
