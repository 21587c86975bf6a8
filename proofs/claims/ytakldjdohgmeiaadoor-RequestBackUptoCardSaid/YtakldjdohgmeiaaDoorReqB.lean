/- Contracts of request's single and double: the word between quotes, and how many bytes it takes. Conditions: texts within the form's reach. -/
import Derived.Test.YtakldjdohgmeiaaDoorReqA
namespace Go.Proofs.YtakldjdohgmeiaaDoor
open Go.RowKit
set_option maxRecDepth 20000

namespace Pl
theorem map_snoc (o : Option (List UInt8 × Nat)) (acc : List UInt8) (c : UInt8) (n k : Nat) :
    (o.map fun p => (c :: p.1, p.2 + k)).map (fun p => (acc ++ p.1, n + p.2)) = o.map fun p => ((acc ++ [c]) ++ p.1, n + k + p.2) := by
  cases o with
  | none => rfl
  | some p =>
    simp
    omega
/-- how a quoted word is told -/
def qW (o : Option (List UInt8 × Nat)) : ByteArray := match o with | some p => B p.1 | none => ⟨#[]⟩
def qN (o : Option (List UInt8 × Nat)) : Int := match o with | some p => (p.2 : Int) + 1 | none => -1
def sgO (s : ByteArray) : Option (List UInt8 × Nat) := sgl s.size ((L s).drop 1)
def dbO (s : ByteArray) : Option (List UInt8 × Nat) := dbl s.size ((L s).drop 1)
/-- what was read so far -/
def far (o : Option (List UInt8 × Nat)) (acc : List UInt8) (i : Nat) : Option (List UInt8 × Nat) := o.map fun p => (acc ++ p.1, i - 1 + p.2)
theorem far_start (o : Option (List UInt8 × Nat)) : far o [] 1 = o := by
  unfold far
  cases o with
  | none => rfl
  | some p => simp
theorem far_done {o : Option (List UInt8 × Nat)} {acc : List UInt8} {i : Nat} (h : o = far (some ([], 1)) acc i) (hi : 1 ≤ i) : qW o = B acc ∧ qN o = (i : Int) + 1 := by
  rw [h]
  unfold far qW qN
  simp
  omega
theorem far_none {o : Option (List UInt8 × Nat)} {acc : List UInt8} {i : Nat} (h : o = far none acc i) : qW o = ⟨#[]⟩ ∧ qN o = -1 := by
  rw [h]
  exact ⟨rfl, rfl⟩
theorem far_step {o q : Option (List UInt8 × Nat)} {acc : List UInt8} {c : UInt8} {i k : Nat} (h : o = far (q.map fun p => (c :: p.1, p.2 + k)) acc i) (hi : 1 ≤ i) : o = far q (acc ++ [c]) (i + k) := by
  rw [h]
  unfold far
  rw [map_snoc]
  cases q with
  | none => rfl
  | some p =>
    simp
    omega
theorem sgl_q (f : Nat) (r : List UInt8) : sgl (f + 1) (39 :: r) = some ([], 1) := by simp [sgl]
theorem sgl_e (f : Nat) (r : List UInt8) : sgl (f + 1) (92 :: 39 :: r) = (sgl f r).map fun p => (39 :: p.1, p.2 + 2) := by simp [sgl]
theorem sgl_c (f : Nat) (c : UInt8) (r : List UInt8) (h1 : c ≠ 39) (h2 : ¬ (c = 92 ∧ r.head? = some 39)) : sgl (f + 1) (c :: r) = (sgl f r).map fun p => (c :: p.1, p.2 + 1) := by
  simp only [sgl]
  rw [if_neg h1, if_neg h2]
theorem sgl_nil (f : Nat) : sgl f [] = none := by cases f <;> rfl
theorem u8_no {c : UInt8} {n : Nat} {d : UInt8} (h : c.toNat ≠ n) (hd : d.toNat = n) : c ≠ d := fun e => h (by rw [e]; exact hd)
theorem u8_is {c : UInt8} {n : Nat} {d : UInt8} (h : c.toNat = n) (hd : d.toNat = n) : c = d := UInt8.toNat_inj.1 (h.trans hd.symm)
end Pl

theorem Mm.ownB_nil (w : World) (b : Nat) : Mm.OwnB w b (.slice none 0 0) [] := ⟨rfl, .inl ⟨rfl, rfl⟩⟩

theorem single_walk (s : ByteArray) (w : World) (hs : s.size ≤ 140737488351232) :
    Calls Tryd.prog 58 #[.string s] w fun e w' => e = .returned (.tuple #[.string (Pl.qW (Pl.sgO s)), .int .i64 (Pl.qN (Pl.sgO s))]) ∧ Below w.heap.size w w' := by
  go_enter Tryd.func58, Tryd.ntmps58
  go_wp2_with fail
  go_loopw [4, 5] (fun bv iv wr => ∃ (i f : Nat) (acc : List UInt8), iv = .int .i64 i ∧ 1 ≤ i ∧ (i ≤ s.size ∨ i = 1) ∧ s.size ≤ f + i ∧ acc.length + 1 ≤ i ∧ Hid (Mm.OwnB wr w.heap.size bv acc) ∧ Hid (Pl.sgO s = Pl.far (Pl.sgl f ((Pl.L s).drop i)) acc i) ∧ Hid (Below w.heap.size w wr))
    (fun _ i _ => s.size - (intOf i).toNat)
  case atStart => exact ⟨1, s.size, [], rfl, Nat.le_refl _, .inr rfl, by omega, Nat.le_refl _, Mm.ownB_nil _ _, (Pl.far_start _).symm, Below.refl _ _⟩
  case round =>
    obtain ⟨i, f, acc, rfl, hi1, hi2, hf, hacc, HO, HQ, HB⟩ := hrel
    by_cases hlt : i < s.size
    · obtain ⟨f, rfl⟩ : ∃ g, f = g + 1 := ⟨f - 1, by omega⟩
      have hq := HQ.out
      rw [Pl.drop_get s i hlt] at hq
      by_cases h39 : (s[i]'hlt).toNat = 39
      · have e39 : (((s[i]'hlt).toNat : Int) == 39) = true := beq_iff_eq.2 (by omega)
        rw [Pl.u8_is (d := 39) h39 rfl, Pl.sgl_q] at hq
        have HR := Pl.hid (Pl.far_done hq hi1)
        have hcv := Mm.run_str _ _ _ _ HO.out
        clear hq h39 hi2 hf
        go_wp2_with fail
        go_ret2
        exact ⟨Pl.ret2si HR.out.1.symm HR.out.2.symm, HB.out⟩
      · have e39 : (((s[i]'hlt).toNat : Int) == 39) = false := beq_eq_false_iff_ne.2 (by omega)
        by_cases h92 : (s[i]'hlt).toNat = 92
        · have e92 : (((s[i]'hlt).toNat : Int) == 92) = true := beq_iff_eq.2 (by omega)
          by_cases h1 : i + 1 < s.size
          · rw [Pl.drop_get s (i + 1) h1] at hq
            by_cases h39' : (s[i + 1]'h1).toNat = 39
            · have e39' : (((s[i + 1]'h1).toNat : Int) == 39) = true := beq_iff_eq.2 (by omega)
              rw [Pl.u8_is (d := 92) h92 rfl, Pl.u8_is (c := s[i + 1]'h1) (d := 39) h39' rfl, Pl.sgl_e] at hq
              have HR := Pl.hid (Pl.far_step hq hi1)
              have HC := Pl.hid (Pl.u8_is (c := s[i + 1]'h1) (d := 39) h39' rfl)
              rw [← HC.out] at HR
              clear hq h39 h92 h39'
              go_wp2_with (at_builtin; refine Mm.wp_app1 _ rfl _ _ (by rfl) w.heap.size _ _ (s[i + 1]'h1) (by rfl) (by rfl) HO.out (by omega) HB.out.size ?_; intro v1 w1 hown1 hb1)
              have HO1 := Pl.hid hown1
              have HB1 := Pl.hid (HB.out.trans hb1)
              clear hown1 hb1
              go_roundw
              case rel => exact ⟨i + 2, f, acc ++ [s[i + 1]'h1], by go_num, by omega, by omega, by omega, by simp; omega, HO1, HR, HB1⟩
              case measure => simp [intOf]; omega
            · have e39' : (((s[i + 1]'h1).toNat : Int) == 39) = false := beq_eq_false_iff_ne.2 (by omega)
              rw [Pl.sgl_c f (s[i]'hlt) _ (Pl.u8_no (d := 39) h39 rfl) (fun h => h39' (by have h2 := h.2; rw [List.head?_cons] at h2; injection h2 with h2; rw [h2]; rfl))] at hq
              rw [← Pl.drop_get s (i + 1) h1] at hq
              have HR := Pl.hid (Pl.far_step hq hi1)
              clear hq h39 h92 h39'
              go_wp2_with (at_builtin; refine Mm.wp_app1 _ rfl _ _ (by rfl) w.heap.size _ _ (s[i]'hlt) (by rfl) (by rfl) HO.out (by omega) HB.out.size ?_; intro v1 w1 hown1 hb1)
              have HO1 := Pl.hid hown1
              have HB1 := Pl.hid (HB.out.trans hb1)
              clear hown1 hb1
              go_roundw
              case rel => exact ⟨i + 1, f, acc ++ [s[i]'hlt], by go_num, by omega, by omega, by omega, by simp; omega, HO1, HR, HB1⟩
              case measure => simp [intOf]; omega
          · rw [Pl.sgl_c f (s[i]'hlt) ((Pl.L s).drop (i + 1)) (Pl.u8_no (d := 39) h39 rfl) (fun h => by rw [Pl.drop_end s (i + 1) (by omega)] at h; cases h.2)] at hq
            have HR := Pl.hid (Pl.far_step hq hi1)
            clear hq h39 h92
            go_wp2_with (at_builtin; refine Mm.wp_app1 _ rfl _ _ (by rfl) w.heap.size _ _ (s[i]'hlt) (by rfl) (by rfl) HO.out (by omega) HB.out.size ?_; intro v1 w1 hown1 hb1)
            have HO1 := Pl.hid hown1
            have HB1 := Pl.hid (HB.out.trans hb1)
            clear hown1 hb1
            go_roundw
            case rel => exact ⟨i + 1, f, acc ++ [s[i]'hlt], by go_num, by omega, by omega, by omega, by simp; omega, HO1, HR, HB1⟩
            case measure => simp [intOf]; omega
        · have e92 : (((s[i]'hlt).toNat : Int) == 92) = false := beq_eq_false_iff_ne.2 (by omega)
          rw [Pl.sgl_c f (s[i]'hlt) ((Pl.L s).drop (i + 1)) (Pl.u8_no (d := 39) h39 rfl) (fun h => h92 (by rw [h.1]; rfl))] at hq
          have HR := Pl.hid (Pl.far_step hq hi1)
          clear hq h39 h92
          go_wp2_with (at_builtin; refine Mm.wp_app1 _ rfl _ _ (by rfl) w.heap.size _ _ (s[i]'hlt) (by rfl) (by rfl) HO.out (by omega) HB.out.size ?_; intro v1 w1 hown1 hb1)
          have HO1 := Pl.hid hown1
          have HB1 := Pl.hid (HB.out.trans hb1)
          clear hown1 hb1
          go_roundw
          case rel => exact ⟨i + 1, f, acc ++ [s[i]'hlt], by go_num, by omega, by omega, by omega, by simp; omega, HO1, HR, HB1⟩
          case measure => simp [intOf]; omega
    · have hq := HQ.out
      rw [Pl.drop_end s i (by omega), Pl.sgl_nil] at hq
      have HR := Pl.hid (Pl.far_none hq)
      clear hq
      go_wp2_with fail
      go_ret2
      exact ⟨Pl.ret2si HR.out.1.symm HR.out.2.symm, HB.out⟩
end Go.Proofs.YtakldjdohgmeiaaDoor
