/- Contracts of the reference's above, Int, Uint. Conditions: texts within the form's reach. -/
import Derived.Test.YtenacajpgpkdnaaDoorDigF
namespace Go.Proofs.YtenacajpgpkdnaaDoor
open Go.RowKit
set_option maxRecDepth 20000

namespace Pl
def abv (h l a b : Int) : Bool := decide (a * 1000000000000 + b < h * 1000000000000 + l)
theorem abv_yes {h l a b : Int} (x : a * 1000000000000 + b < h * 1000000000000 + l) : abv h l a b = true := decide_eq_true x
theorem abv_no {h l a b : Int} (x : ¬ a * 1000000000000 + b < h * 1000000000000 + l) : abv h l a b = false := decide_eq_false x
theorem dg_facts {l : List UInt8} {m : Int} (h : dgO l m = true) (hm : m ≤ 20) : plainW l = true ∧ (l.length : Int) ≤ m ∧ 0 ≤ dgH l m ∧ dgH l m ≤ 99999999 ∧ 0 ≤ dgL l m ∧ dgL l m ≤ 999999999999 ∧ dgH l m * 1000000000000 + dgL l m = (num 0 l : Int) := by
  have h' := h
  unfold dgO at h'
  rw [Bool.and_eq_true] at h'
  obtain ⟨h1, h2⟩ := h'
  have h2 : (l.length : Int) ≤ m := by simpa using h2
  have h3 := num_lt l 0 0 (plainW_allD h1).1 (by decide)
  have h4 : 10 ^ (0 + l.length) ≤ 10 ^ 20 := Nat.pow_le_pow_right (by decide) (by omega)
  have h5 : (10 : Nat) ^ 20 = 100000000000000000000 := by decide
  unfold dgH dgL dgN
  rw [if_pos h]
  exact ⟨h1, h2, by omega, by omega, by omega, by omega, by omega⟩
theorem dg_not {l : List UInt8} {m : Nat} (h : dgO l (m : Int) = false) (hm : 1 ≤ m) : plainW l = false ∨ plainW l = true ∧ 10 ^ m ≤ num 0 l := by
  cases hp : plainW l
  · exact .inl rfl
  · right
    refine ⟨rfl, plainW_big hp m ?_ hm⟩
    unfold dgO at h
    rw [hp, Bool.true_and] at h
    have := of_decide_eq_false h
    omega
theorem rI_head {l : List UInt8} (h : l.head? = some 45) : rI l = if plainW l.tail = true ∧ l.tail ≠ [48] ∧ num 0 l.tail ≤ 9223372036854775808 then some (-(num 0 l.tail : Int)) else none := if_pos h
theorem rI_other {l : List UInt8} (h : l.head? ≠ some 45) : rI l = if plainW l = true ∧ num 0 l ≤ 9223372036854775807 then some (num 0 l : Int) else none := if_neg h
theorem rI_none' {l : List UInt8} (h : rI l = none) : 0 = rIv l ∧ 10 = rIc l := by
  unfold rIv rIc
  rw [h]
  exact ⟨rfl, rfl⟩
theorem rI_some' {l : List UInt8} {v : Int} (h : rI l = some v) : v = rIv l ∧ 0 = rIc l := by
  unfold rIv rIc
  rw [h]
  exact ⟨rfl, rfl⟩
theorem rU_none' {l : List UInt8} (h : rU l = none) : 0 = rUv l ∧ 10 = rUc l := by
  unfold rUv rUc
  rw [h]
  exact ⟨rfl, rfl⟩
theorem rU_some' {l : List UInt8} {v : Nat} (h : rU l = some v) : (v : Int) = rUv l ∧ 0 = rUc l := by
  unfold rUv rUc
  rw [h]
  exact ⟨rfl, rfl⟩
theorem refN_no {l : List UInt8} (hh : l.head? = some 45) (h : dgO l.tail 19 = false) : 0 = rIv l ∧ 10 = rIc l := by
  apply rI_none'
  rw [rI_head hh, if_neg]
  rintro ⟨h1, _, h3⟩
  rcases dg_not (m := 19) h (by decide) with h4 | ⟨_, h4⟩
  · rw [h1] at h4
    cases h4
  · have : (10 : Nat) ^ 19 = 10000000000000000000 := by decide
    omega
theorem refN_zero {l : List UInt8} (hh : l.head? = some 45) (h : l.tail = [48]) : 0 = rIv l ∧ 10 = rIc l := by
  apply rI_none'
  rw [rI_head hh, if_neg]
  rintro ⟨_, h2, _⟩
  exact h2 h
theorem refN_big {l : List UInt8} (hh : l.head? = some 45) (h : 9223372036854775808 < (num 0 l.tail : Int)) : 0 = rIv l ∧ 10 = rIc l := by
  apply rI_none'
  rw [rI_head hh, if_neg]
  rintro ⟨_, _, h3⟩
  omega
theorem refN_ok {l : List UInt8} {v : Int} (hh : l.head? = some 45) (hp : plainW l.tail = true) (hn : l.tail ≠ [48]) (h : (num 0 l.tail : Int) ≤ 9223372036854775808) (hv : v = -(num 0 l.tail : Int)) : v = rIv l ∧ 0 = rIc l := by
  apply rI_some'
  rw [rI_head hh, if_pos ⟨hp, hn, by omega⟩, hv]
theorem refP_no {l : List UInt8} (hh : l.head? ≠ some 45) (h : dgO l 19 = false) : 0 = rIv l ∧ 10 = rIc l := by
  apply rI_none'
  rw [rI_other hh, if_neg]
  rintro ⟨h1, h3⟩
  rcases dg_not (m := 19) h (by decide) with h4 | ⟨_, h4⟩
  · rw [h1] at h4
    cases h4
  · have : (10 : Nat) ^ 19 = 10000000000000000000 := by decide
    omega
theorem refP_big {l : List UInt8} (hh : l.head? ≠ some 45) (h : 9223372036854775807 < (num 0 l : Int)) : 0 = rIv l ∧ 10 = rIc l := by
  apply rI_none'
  rw [rI_other hh, if_neg]
  rintro ⟨_, h3⟩
  omega
theorem refP_ok {l : List UInt8} {v : Int} (hh : l.head? ≠ some 45) (hp : plainW l = true) (h : (num 0 l : Int) ≤ 9223372036854775807) (hv : v = (num 0 l : Int)) : v = rIv l ∧ 0 = rIc l := by
  apply rI_some'
  rw [rI_other hh, if_pos ⟨hp, by omega⟩, hv]
theorem refU_no {l : List UInt8} (h : dgO l 20 = false) : 0 = rUv l ∧ 10 = rUc l := by
  apply rU_none'
  unfold rU
  rw [if_neg]
  rintro ⟨h1, h3⟩
  rcases dg_not (m := 20) h (by decide) with h4 | ⟨_, h4⟩
  · rw [h1] at h4
    cases h4
  · have : (10 : Nat) ^ 20 = 100000000000000000000 := by decide
    omega
theorem refU_big {l : List UInt8} (h : 18446744073709551615 < (num 0 l : Int)) : 0 = rUv l ∧ 10 = rUc l := by
  apply rU_none'
  unfold rU
  rw [if_neg]
  rintro ⟨_, h3⟩
  omega
theorem refU_ok {l : List UInt8} {v : Int} (hp : plainW l = true) (h : (num 0 l : Int) ≤ 18446744073709551615) (hv : v = (num 0 l : Int)) : v = rUv l ∧ 0 = rUc l := by
  rw [hv]
  apply rU_some'
  unfold rU
  rw [if_pos ⟨hp, by omega⟩]
theorem tail_L {s : ByteArray} (_ : 0 < s.size) : L (s.extract 1 s.size) = (L s).tail := by
  rw [extract_B, L_B]
  unfold slc
  rw [List.take_of_length_le (by rw [List.length_drop, L_length]; exact Nat.le_refl _), List.drop_one]
theorem toL_eq' {s : ByteArray} {l m : List UInt8} (h : L s = m) (h' : m = l) : (s.toList == l) = true := toL_eq (h.trans h')
theorem toL_ne' {s : ByteArray} {l m : List UInt8} (h : L s = m) (h' : m ≠ l) : (s.toList == l) = false := toL_ne (by rw [h]; exact h')
end Pl

theorem above_walk (h l a b : Int) (w : World) (h0 : 0 ≤ h) (h1 : h ≤ 18446744073709551615) (l0 : 0 ≤ l) (l1 : l ≤ 999999999999) (a0 : 0 ≤ a) (a1 : a ≤ 18446744073709551615) (b0 : 0 ≤ b) (b1 : b ≤ 999999999999) :
    Calls Tryd.prog 78 #[.int .u64 h, .int .u64 l, .int .u64 a, .int .u64 b] w fun e w' => e = .returned (.bool (Pl.abv h l a b)) ∧ w = w' := by
  rcases Int.lt_trichotomy a h with hc | hc | hc
  · have HR := Pl.hid (Pl.abv_yes (h := h) (l := l) (a := a) (b := b) (by omega))
    go_enter Tryd.func78, Tryd.ntmps78
    go_wp2_with fail
    go_ret
    exact ⟨Pl.ret1b HR.out.symm, rfl⟩
  · subst hc
    by_cases hb : b < l
    · have HR := Pl.hid (Pl.abv_yes (h := a) (l := l) (a := a) (b := b) (by omega))
      go_enter Tryd.func78, Tryd.ntmps78
      go_wp2_with fail
      go_ret
      exact ⟨Pl.ret1b (HR.out.symm ▸ (by simp)), rfl⟩
    · have HR := Pl.hid (Pl.abv_no (h := a) (l := l) (a := a) (b := b) (by omega))
      go_enter Tryd.func78, Tryd.ntmps78
      go_wp2_with fail
      go_ret
      exact ⟨Pl.ret1b (HR.out.symm ▸ (by simp)), rfl⟩
  · have HR := Pl.hid (Pl.abv_no (h := h) (l := l) (a := a) (b := b) (by omega))
    have hn : (h == a) = false := beq_eq_false_iff_ne.2 (by omega)
    go_enter Tryd.func78, Tryd.ntmps78
    go_wp2_with fail
    go_ret
    exact ⟨Pl.ret1b (by rw [HR.out]; exact decide_eq_false (by omega)), rfl⟩

theorem refint_walk (s : ByteArray) (w : World) (hs : s.size ≤ 140737488351232) :
    Calls Tryd.prog 33 #[.string s] w fun e w' => e = .returned (.tuple #[.int .i64 (Pl.rIv (Pl.L s)), .int .i64 (Pl.rIc (Pl.L s))]) ∧ w = w' := by
  rcases Nat.eq_zero_or_pos s.size with hsz | hsz
  · obtain rfl : s = ⟨#[]⟩ := Pl.ba_ext (List.eq_nil_of_length_eq_zero (by rw [Pl.L_length]; exact hsz))
    have HO : Hid (Pl.dgO (Pl.L ⟨#[]⟩) 19 = false) := by show _ = _; decide
    have HV := Pl.hid (Pl.dg_no HO.out)
    have HR := Pl.hid (Pl.refP_no (l := Pl.L ⟨#[]⟩) (by decide) HO.out)
    clear hsz
    go_enter Tryd.func33, Tryd.ntmps33
    go_wp2_with fail
    refine (digits_walk _ 19 _ hs (by omega) (by omega)).mono ?_
    rw [HO.out, HV.out.1, HV.out.2]
    rintro e w1 ⟨rfl, rfl⟩
    go_wp2_with fail
    go_ret2
    exact ⟨Pl.ret2ii HR.out.1 HR.out.2, rfl⟩
  · by_cases hc : (s[0]'hsz).toNat = 45
    · have hc' : (((s[0]'hsz).toNat : Int) == 45) = true := beq_iff_eq.2 (by omega)
      have HH : Hid ((Pl.L s).head? = some 45) := by
        show _ = _
        rw [Pl.head_L s hsz]
        congr 1
        exact UInt8.toNat_inj.1 hc
      have HT := Pl.hid (Pl.tail_L hsz)
      have HZ : Hid ((s.extract 1 s.size).size ≤ 140737488351232) := by
        show _ ≤ _
        rw [ByteArray.size_extract]
        omega
      clear hc
      cases ho : Pl.dgO (Pl.L s).tail 19 with
      | false =>
        have HR := Pl.hid (Pl.refN_no HH.out ho)
        have HV := Pl.hid (Pl.dg_no ho)
        go_enter Tryd.func33, Tryd.ntmps33
        go_wp2_with fail
        refine (digits_walk _ 19 _ HZ.out (by omega) (by omega)).mono ?_
        rw [HT.out]
        rw [ho, HV.out.1, HV.out.2]
        rintro e w1 ⟨rfl, rfl⟩
        go_wp2_with fail
        go_ret2
        exact ⟨Pl.ret2ii HR.out.1 HR.out.2, rfl⟩
      | true =>
        obtain ⟨hp, hl, f1, f2, f3, f4, f5⟩ := Pl.dg_facts ho (by decide)
        have HO := Pl.hid ho
        have HP := Pl.hid hp
        obtain ⟨a, ha⟩ : ∃ a, a = Pl.dgH (Pl.L s).tail 19 := ⟨_, rfl⟩
        obtain ⟨b, hb⟩ : ∃ b, b = Pl.dgL (Pl.L s).tail 19 := ⟨_, rfl⟩
        rw [← ha] at f1 f2 f5
        rw [← hb] at f3 f4 f5
        have HA := Pl.hid ha
        have HB := Pl.hid hb
        have HF := Pl.hid f5
        clear ha hb f5 hp ho hl
        by_cases hz : (Pl.L s).tail = [48]
        · have e48 := Pl.toL_eq' HT.out hz
          have HR := Pl.hid (Pl.refN_zero HH.out hz)
          clear hz
          go_enter Tryd.func33, Tryd.ntmps33
          go_wp2_with fail
          refine (digits_walk _ 19 _ HZ.out (by omega) (by omega)).mono ?_
          rw [HT.out]
          rw [HO.out, ← HA.out, ← HB.out]
          rintro e w1 ⟨rfl, rfl⟩
          go_wp2_with fail
          go_ret2
          exact ⟨Pl.ret2ii HR.out.1 HR.out.2, rfl⟩
        · have e48 := Pl.toL_ne' HT.out hz
          rcases Int.lt_or_le 9223372036854775808 (a * 1000000000000 + b) with hbig | hbig
          · have hx := HF.out
            have HR := Pl.hid (Pl.refN_big HH.out (by omega))
            have HN := Pl.hid (Pl.abv_yes (h := a) (l := b) (a := 9223372) (b := 36854775808) (by omega))
            clear hx
            clear hz
            go_enter Tryd.func33, Tryd.ntmps33
            go_wp2_with fail
            refine (digits_walk _ 19 _ HZ.out (by omega) (by omega)).mono ?_
            rw [HT.out]
            rw [HO.out, ← HA.out, ← HB.out]
            rintro e w1 ⟨rfl, rfl⟩
            go_wp2_with fail
            refine (above_walk _ _ _ _ _ (by omega) (by omega) (by omega) (by omega) (by decide) (by decide) (by decide) (by decide)).mono ?_
            rw [HN.out]
            rintro e w2 ⟨rfl, rfl⟩
            go_wp2_with fail
            go_ret2
            exact ⟨Pl.ret2ii HR.out.1 HR.out.2, rfl⟩
          · have hx := HF.out
            have HR := Pl.hid (Pl.refN_ok HH.out HP.out hz (v := -a * 1000000000000 - b) (by omega) (by omega))
            have HN := Pl.hid (Pl.abv_no (h := a) (l := b) (a := 9223372) (b := 36854775808) (by omega))
            clear hx
            clear hz
            go_enter Tryd.func33, Tryd.ntmps33
            go_wp2_with fail
            refine (digits_walk _ 19 _ HZ.out (by omega) (by omega)).mono ?_
            rw [HT.out]
            rw [HO.out, ← HA.out, ← HB.out]
            rintro e w1 ⟨rfl, rfl⟩
            go_wp2_with fail
            refine (above_walk _ _ _ _ _ (by omega) (by omega) (by omega) (by omega) (by decide) (by decide) (by decide) (by decide)).mono ?_
            rw [HN.out]
            rintro e w2 ⟨rfl, rfl⟩
            go_wp2_with fail
            go_ret2
            exact ⟨Pl.ret2ii HR.out.1 HR.out.2, rfl⟩
    · have hc' : (((s[0]'hsz).toNat : Int) == 45) = false := beq_eq_false_iff_ne.2 (by omega)
      have HH : Hid ((Pl.L s).head? ≠ some 45) := fun h => by
        rw [Pl.head_L s hsz] at h
        injection h with h
        exact hc (by rw [h]; rfl)
      have HZ := Pl.hid hs
      clear hc
      cases ho : Pl.dgO (Pl.L s) 19 with
      | false =>
        have HR := Pl.hid (Pl.refP_no HH.out ho)
        have HV := Pl.hid (Pl.dg_no ho)
        go_enter Tryd.func33, Tryd.ntmps33
        go_wp2_with fail
        refine (digits_walk _ 19 _ HZ.out (by omega) (by omega)).mono ?_
        rw [ho, HV.out.1, HV.out.2]
        rintro e w1 ⟨rfl, rfl⟩
        go_wp2_with fail
        go_ret2
        exact ⟨Pl.ret2ii HR.out.1 HR.out.2, rfl⟩
      | true =>
        obtain ⟨hp, hl, f1, f2, f3, f4, f5⟩ := Pl.dg_facts ho (by decide)
        have HO := Pl.hid ho
        have HP := Pl.hid hp
        obtain ⟨a, ha⟩ : ∃ a, a = Pl.dgH (Pl.L s) 19 := ⟨_, rfl⟩
        obtain ⟨b, hb⟩ : ∃ b, b = Pl.dgL (Pl.L s) 19 := ⟨_, rfl⟩
        rw [← ha] at f1 f2 f5
        rw [← hb] at f3 f4 f5
        have HA := Pl.hid ha
        have HB := Pl.hid hb
        have HF := Pl.hid f5
        clear ha hb f5 hp ho hl
        rcases Int.lt_or_le 9223372036854775807 (a * 1000000000000 + b) with hbig | hbig
        · have hx := HF.out
          have HR := Pl.hid (Pl.refP_big HH.out (by omega))
          have HN := Pl.hid (Pl.abv_yes (h := a) (l := b) (a := 9223372) (b := 36854775807) (by omega))
          clear hx
          go_enter Tryd.func33, Tryd.ntmps33
          go_wp2_with fail
          refine (digits_walk _ 19 _ HZ.out (by omega) (by omega)).mono ?_
          rw [HO.out, ← HA.out, ← HB.out]
          rintro e w1 ⟨rfl, rfl⟩
          go_wp2_with fail
          refine (above_walk _ _ _ _ _ (by omega) (by omega) (by omega) (by omega) (by decide) (by decide) (by decide) (by decide)).mono ?_
          rw [HN.out]
          rintro e w2 ⟨rfl, rfl⟩
          go_wp2_with fail
          go_ret2
          exact ⟨Pl.ret2ii HR.out.1 HR.out.2, rfl⟩
        · have hx := HF.out
          have HR := Pl.hid (Pl.refP_ok HH.out HP.out (v := a * 1000000000000 + b) (by omega) (by omega))
          have HN := Pl.hid (Pl.abv_no (h := a) (l := b) (a := 9223372) (b := 36854775807) (by omega))
          clear hx
          go_enter Tryd.func33, Tryd.ntmps33
          go_wp2_with fail
          refine (digits_walk _ 19 _ HZ.out (by omega) (by omega)).mono ?_
          rw [HO.out, ← HA.out, ← HB.out]
          rintro e w1 ⟨rfl, rfl⟩
          go_wp2_with fail
          refine (above_walk _ _ _ _ _ (by omega) (by omega) (by omega) (by omega) (by decide) (by decide) (by decide) (by decide)).mono ?_
          rw [HN.out]
          rintro e w2 ⟨rfl, rfl⟩
          go_wp2_with fail
          go_ret2
          exact ⟨Pl.ret2ii HR.out.1 HR.out.2, rfl⟩

theorem refuint_walk (s : ByteArray) (w : World) (hs : s.size ≤ 140737488351232) :
    Calls Tryd.prog 35 #[.string s] w fun e w' => e = .returned (.tuple #[.int .u64 (Pl.rUv (Pl.L s)), .int .i64 (Pl.rUc (Pl.L s))]) ∧ w = w' := by
  cases ho : Pl.dgO (Pl.L s) 20 with
  | false =>
    have HR := Pl.hid (Pl.refU_no ho)
    have HV := Pl.hid (Pl.dg_no ho)
    go_enter Tryd.func35, Tryd.ntmps35
    go_wp2_with fail
    refine (digits_walk _ 20 _ hs (by omega) (by omega)).mono ?_
    rw [ho, HV.out.1, HV.out.2]
    rintro e w1 ⟨rfl, rfl⟩
    go_wp2_with fail
    go_ret2
    exact ⟨Pl.ret2ii HR.out.1 HR.out.2, rfl⟩
  | true =>
    obtain ⟨hp, hl, f1, f2, f3, f4, f5⟩ := Pl.dg_facts ho (by decide)
    have HO := Pl.hid ho
    have HP := Pl.hid hp
    obtain ⟨a, ha⟩ : ∃ a, a = Pl.dgH (Pl.L s) 20 := ⟨_, rfl⟩
    obtain ⟨b, hb⟩ : ∃ b, b = Pl.dgL (Pl.L s) 20 := ⟨_, rfl⟩
    rw [← ha] at f1 f2 f5
    rw [← hb] at f3 f4 f5
    have HA := Pl.hid ha
    have HB := Pl.hid hb
    have HF := Pl.hid f5
    clear ha hb f5 hp ho hl
    rcases Int.lt_or_le 18446744073709551615 (a * 1000000000000 + b) with hbig | hbig
    · have hx := HF.out
      have HR := Pl.hid (Pl.refU_big (l := Pl.L s) (by omega))
      have HN := Pl.hid (Pl.abv_yes (h := a) (l := b) (a := 18446744) (b := 73709551615) (by omega))
      clear hx
      go_enter Tryd.func35, Tryd.ntmps35
      go_wp2_with fail
      refine (digits_walk _ 20 _ hs (by omega) (by omega)).mono ?_
      rw [HO.out, ← HA.out, ← HB.out]
      rintro e w1 ⟨rfl, rfl⟩
      go_wp2_with fail
      refine (above_walk _ _ _ _ _ (by omega) (by omega) (by omega) (by omega) (by decide) (by decide) (by decide) (by decide)).mono ?_
      rw [HN.out]
      rintro e w2 ⟨rfl, rfl⟩
      go_wp2_with fail
      go_ret2
      exact ⟨Pl.ret2ii HR.out.1 HR.out.2, rfl⟩
    · have hx := HF.out
      have HR := Pl.hid (Pl.refU_ok (v := a * 1000000000000 + b) HP.out (by omega) (by omega))
      have HN := Pl.hid (Pl.abv_no (h := a) (l := b) (a := 18446744) (b := 73709551615) (by omega))
      clear hx
      go_enter Tryd.func35, Tryd.ntmps35
      go_wp2_with fail
      refine (digits_walk _ 20 _ hs (by omega) (by omega)).mono ?_
      rw [HO.out, ← HA.out, ← HB.out]
      rintro e w1 ⟨rfl, rfl⟩
      go_wp2_with fail
      refine (above_walk _ _ _ _ _ (by omega) (by omega) (by omega) (by omega) (by decide) (by decide) (by decide) (by decide)).mono ?_
      rw [HN.out]
      rintro e w2 ⟨rfl, rfl⟩
      go_wp2_with fail
      go_ret2
      exact ⟨Pl.ret2ii HR.out.1 HR.out.2, rfl⟩
end Go.Proofs.YtenacajpgpkdnaaDoor
