/- Contract of request's Inline, of a line whose words are right: the words in a new row, no error. Conditions: at most 4096 bytes. -/
import Derived.Test.YtakldjdohgmeiaaDoorReqD
namespace Go.Proofs.YtakldjdohgmeiaaDoor
open Go.RowKit
set_option maxRecDepth 20000

theorem Mm.OwnS.below {w w' : World} {b : Nat} {v : Value} {l : List (List UInt8)} (h : Mm.OwnS w b v l) (hb : Below w.heap.size w w') : Mm.OwnS w' b v l := by
  obtain ⟨hl, h0 | ⟨g, cap, cur, hv, hg, hh, r⟩⟩ := h
  · exact ⟨hl, .inl h0⟩
  · exact ⟨hl, .inr ⟨g, cap, cur, hv, hg, by rw [hb.block g (Array.getElem?_eq_some_iff.1 hh).1]; exact hh, r⟩⟩

namespace Pl
theorem inl_ok {f : Nat} {l : List UInt8} {acc ws : List (List UInt8)} (h : inl f l acc = (0, ws)) :
    (l.dropWhile blankB = [] ∧ ws = acc) ∨ ∃ (g : Nat) (p : List UInt8 × Nat), l.dropWhile blankB ≠ [] ∧ acc.length ≠ 1024 ∧ tok (l.dropWhile blankB) = some p ∧ ((l.dropWhile blankB).drop p.2).head?.any (fun d => !blankB d) = false ∧ inl g ((l.dropWhile blankB).drop p.2) (acc ++ [p.1]) = (0, ws) := by
  cases f with
  | zero => simp [inl] at h
  | succ f =>
    unfold inl at h
    cases hd : l.dropWhile blankB with
    | nil =>
      rw [hd] at h
      simp at h
      exact .inl ⟨rfl, h.symm⟩
    | cons c r =>
      rw [hd] at h
      simp only at h
      right
      by_cases h1 : acc.length = 1024
      · rw [if_pos h1] at h
        simp at h
      · rw [if_neg h1] at h
        cases ht : tok (c :: r) with
        | none =>
          rw [ht] at h
          simp at h
        | some p =>
          rw [ht] at h
          simp only at h
          cases hb : ((c :: r).drop p.2).head?.any (fun d => !blankB d) with
          | true =>
            rw [hb] at h
            simp at h
          | false =>
            rw [hb] at h
            exact ⟨f, p, by simp, h1, rfl, hb, by simpa using h⟩
def strSz : Value → Nat | .string s => s.size | _ => 0
theorem ext_drop (s : ByteArray) (n : Nat) : L (s.extract n s.size) = (L s).drop n := by
  rw [extract_B, L_B]
  unfold slc
  rw [List.take_of_length_le (by rw [List.length_drop, L_length]; exact Nat.le_refl _)]
theorem ext_take (s : ByteArray) (n : Nat) : s.extract 0 n = B ((L s).take n) := by
  rw [extract_B]
  rfl
theorem ext_size (s : ByteArray) (n : Nat) : (s.extract n s.size).size = s.size - n := by
  rw [← L_length, ext_drop, List.length_drop, L_length]
theorem drop_blank {s : ByteArray} (h : 0 < s.size) (hb : blankB (s[0]'h) = true) : (L (s.extract 1 s.size)).dropWhile blankB = (L s).dropWhile blankB := by
  rw [ext_drop]
  have h1 := drop_get s 0 h
  rw [List.drop_zero] at h1
  rw [h1, List.dropWhile_cons, if_pos hb]
  rfl
theorem drop_word {s : ByteArray} (h : 0 < s.size) (hb : blankB (s[0]'h) = false) : (L s).dropWhile blankB = L s := by
  have h1 := drop_get s 0 h
  rw [List.drop_zero] at h1
  rw [h1, List.dropWhile_cons, if_neg (by rw [hb]; decide)]
theorem tok_34 {s : ByteArray} {p : List UInt8 × Nat} (hh : (L s).head? = some 34) (h : tok (L s) = some p) : qW (dbO s) = B p.1 ∧ qN (dbO s) = (p.2 : Int) ∧ 1 ≤ p.2 ∧ p.2 ≤ s.size := by
  unfold tok at h
  rw [if_pos hh, L_length] at h
  have e : dbO s = dbl s.size (L s).tail := by
    unfold dbO
    rw [List.drop_one]
  cases hq : dbl s.size (L s).tail with
  | none => rw [hq] at h; cases h
  | some q =>
    rw [hq] at h
    injection h with h
    subst h
    have h1 := dbl_le _ _ _ hq
    have h2 := L_length s
    rw [e, hq]
    refine ⟨rfl, rfl, Nat.succ_le_succ (Nat.zero_le _), ?_⟩
    rw [List.length_tail, h2] at h1
    have h3 : 0 < s.size := by
      rcases Nat.eq_zero_or_pos s.size with h0 | h0
      · rw [List.eq_nil_of_length_eq_zero (h2.trans h0)] at hh
        cases hh
      · exact h0
    simp only
    omega
theorem tok_39 {s : ByteArray} {p : List UInt8 × Nat} (hh : (L s).head? = some 39) (h : tok (L s) = some p) : qW (sgO s) = B p.1 ∧ qN (sgO s) = (p.2 : Int) ∧ 1 ≤ p.2 ∧ p.2 ≤ s.size := by
  unfold tok at h
  rw [if_neg (by rw [hh]; decide), if_pos hh, L_length] at h
  have e : sgO s = sgl s.size (L s).tail := by
    unfold sgO
    rw [List.drop_one]
  cases hq : sgl s.size (L s).tail with
  | none => rw [hq] at h; cases h
  | some q =>
    rw [hq] at h
    injection h with h
    subst h
    have h1 := sgl_le _ _ _ hq
    have h2 := L_length s
    rw [e, hq]
    refine ⟨rfl, rfl, Nat.succ_le_succ (Nat.zero_le _), ?_⟩
    rw [List.length_tail, h2] at h1
    have h3 : 0 < s.size := by
      rcases Nat.eq_zero_or_pos s.size with h0 | h0
      · rw [List.eq_nil_of_length_eq_zero (h2.trans h0)] at hh
        cases hh
      · exact h0
    simp only
    omega
theorem take_while {l : List UInt8} {p : UInt8 → Bool} : ∀ {k : Nat}, k ≤ l.length → (∀ j, (hj : j < l.length) → j < k → p (l[j]'hj) = true) → (∀ h : k < l.length, p (l[k]'h) = false) → l.takeWhile p = l.take k := by
  induction l with
  | nil => intro k _ _ _; simp
  | cons c r ih =>
    intro k hk h1 h2
    cases k with
    | zero =>
      have := h2 (by simp)
      simp at this
      simp [this]
    | succ k =>
      have h0 := h1 0 (by simp) (by omega)
      simp at h0
      rw [List.takeWhile_cons, if_pos h0, List.take_succ_cons]
      congr 1
      refine ih (by simpa using hk) (fun j hj hjk => ?_) (fun h => ?_)
      · have := h1 (j + 1) (by simp; omega) (by omega)
        simpa using this
      · have := h2 (by simp; omega)
        simpa using this
theorem L_at (s : ByteArray) (k : Nat) (h : k < s.size) (h' : k < (L s).length) : (L s)[k]'h' = s[k]'h := by
  have h1 := get_L s k h
  rw [List.getElem?_eq_getElem h'] at h1
  injection h1
theorem tok_plain {s : ByteArray} {p : List UInt8 × Nat} {k : Nat} (h34 : (L s).head? ≠ some 34) (h39 : (L s).head? ≠ some 39) (h : tok (L s) = some p) (hk : k ≤ s.size) (h1 : ∀ j, (hj : j < s.size) → j < k → blankB (s[j]'hj) = false)
    (h2 : ∀ h : k < s.size, blankB (s[k]'h) = true) : p.2 = k ∧ B p.1 = s.extract 0 k := by
  unfold tok at h
  rw [if_neg h34, if_neg h39] at h
  have e : (L s).takeWhile (fun c => !blankB c) = (L s).take k := by
    refine take_while (by rw [L_length]; exact hk) (fun j hj hjk => ?_) (fun h => ?_)
    · have hj' : j < s.size := by rw [← L_length]; exact hj
      rw [L_at s j hj' hj, h1 j hj' hjk]
      rfl
    · have h' : k < s.size := by rw [← L_length]; exact h
      rw [L_at s k h' h, h2 h']
      rfl
  injection h with h
  subst h
  simp only
  rw [e, ext_take, List.length_take, L_length]
  exact ⟨by omega, rfl⟩
theorem head_drop {s : ByteArray} {n : Nat} (h : n < s.size) (hb : ((L s).drop n).head?.any (fun d => !blankB d) = false) : blankB (s[n]'h) = true := by
  rw [drop_get s n h] at hb
  simpa using hb
end Pl

theorem blank_byte (c : UInt8) (w : World) : Calls Tryd.prog 56 #[.int .u8 (c.toNat : Int)] w fun e w' => e = .returned (.bool (Pl.blankB c)) ∧ w = w' := by
  rw [← Pl.blank_nat]
  exact blank_walk _ w (by omega) (by have := c.toNat_lt; omega)

set_option maxHeartbeats 8000000 in
theorem inline_ok (s : ByteArray) (f0 : Nat) (ws : List (List UInt8)) (w : World) (hs : s.size ≤ 4096) (hin : Pl.inl f0 (Pl.L s) [] = (0, ws)) :
    Calls Tryd.prog 38 #[.string s] w fun e w' => ∃ v, e = .returned (.tuple #[v, .nilIface]) ∧ Mm.OwnS w' w.heap.size v ws ∧ Below w.heap.size w w' := by
  have HIN := Pl.hid hin
  clear hin
  go_enter Tryd.func38, Tryd.ntmps38
  go_wp2_with fail
  go_loopw [0, 4] (fun lv wv wr => ∃ (l : ByteArray) (f : Nat) (acc : List (List UInt8)), lv = .string l ∧ l.size ≤ 4096 ∧ Hid (Mm.OwnS wr w.heap.size wv acc) ∧ Hid (Pl.inl f (Pl.L l) acc = (0, ws)) ∧ acc.length ≤ 1024 ∧ Hid (Below w.heap.size w wr)) (fun lv _ _ => Pl.strSz lv)
  case atStart => exact ⟨s, f0, [], rfl, hs, Mm.ownS_nil _ _, HIN, by decide, Below.refl _ _⟩
  case round =>
    obtain ⟨l, f, acc, rfl, hl, HO, HQ, hacc, HB⟩ := hrel
    go_wp2_with fail
    go_loop [0] (fun mv => ∃ m : ByteArray, mv = .string m ∧ m.size ≤ l.size ∧ Hid ((Pl.L m).dropWhile Pl.blankB = (Pl.L l).dropWhile Pl.blankB)) (fun mv => Pl.strSz mv)
    case atStart => exact ⟨l, rfl, Nat.le_refl _, rfl⟩
    case round =>
      obtain ⟨m, rfl, hm, HM⟩ := hrel
      rcases Nat.eq_zero_or_pos m.size with h0 | hpos
      · obtain rfl : m = ⟨#[]⟩ := Pl.ba_ext (List.eq_nil_of_length_eq_zero (by rw [Pl.L_length]; exact h0))
        have HW : Hid (ws = acc) := by
          have hm2 := HM.out
          rw [show (Pl.L ⟨#[]⟩).dropWhile Pl.blankB = [] from rfl] at hm2
          rcases Pl.inl_ok HQ.out with ⟨_, h⟩ | ⟨_, _, h, _⟩
          · exact h
          · exact absurd hm2.symm h
        clear h0
        go_wp2_with fail
        go_ret2
        exact ⟨_, rfl, by rw [HW.out]; exact HO.out, HB.out⟩
      · have he := Pl.toL_full hpos
        cases hb : Pl.blankB (m[0]'hpos) with
        | true =>
          have HM2 := Pl.hid ((Pl.drop_blank hpos hb).trans HM.out)
          have HZ := Pl.hid (Pl.ext_size m 1)
          go_wp2_with (go_at_call 56; refine (blank_byte _ _).mono ?_; rw [hb]; rintro e w' ⟨rfl, rfl⟩)
          go_round
          case rel => exact ⟨_, rfl, by rw [HZ.out]; omega, HM2⟩
          case measure => simp only [Pl.strSz]; rw [HZ.out]; omega
        | false =>
          have HD := Pl.hid ((Pl.drop_word hpos hb).symm.trans HM.out)
          obtain ⟨av, cv, rfl, hval⟩ := HO.out.val
          have HVal := Pl.hid hval
          clear hval
          rcases Pl.inl_ok HQ.out with ⟨h, _⟩ | ⟨g, ⟨pw, n⟩, h1, h2, h3, h4, h5⟩
          · rw [← HD.out] at h
            exact absurd h (List.ne_nil_of_length_pos (by rw [Pl.L_length]; exact hpos))
          rw [← HD.out] at h3 h4 h5
          have hne : ((acc.length : Int) == 1024) = false := beq_eq_false_iff_ne.2 (by omega)
          have hacc' : acc.length < 1024 := by omega
          have H3 := Pl.hid h3
          have H4 := Pl.hid h4
          have H5 := Pl.hid h5
          have HH := Pl.hid (Pl.head_L m hpos)
          clear h1 h2 h3 h4 h5 hacc
          by_cases h34 : (m[0]'hpos).toNat = 34
          · skip
            have HT := Pl.hid (Pl.tok_34 (s := m) (by rw [HH.out]; congr 1; exact Pl.u8_is (d := 34) h34 rfl) H3.out)
            have hn1 : 1 ≤ n := HT.out.2.2.1
            have hn2 : n ≤ m.size := HT.out.2.2.2
            have HWp : Hid (Pl.L (Pl.B pw) = pw) := Pl.L_B _
            have e34 : (((m[0]'hpos).toNat : Int) == 34) = true := beq_iff_eq.2 (by omega)
            clear h34
            go_wp2_with (go_at_call 56; refine (blank_byte _ _).mono ?_; rw [hb]; rintro e w' ⟨rfl, rfl⟩)
            refine (double_walk m _ (by omega)).mono ?_
            rw [HT.out.1, HT.out.2.1]
            rintro e w1 ⟨rfl, hb1⟩
            have HO1 := Pl.hid (HO.out.below hb1)
            have HB1 := Pl.hid (HB.out.trans (hb1.mono HB.out.size))
            clear hb1
            rcases Nat.lt_or_ge n m.size with hnl | hnl
            · have hbn := Pl.head_drop hnl H4.out
              go_wp2_with (first | (go_at_call 56; refine (blank_byte _ _).mono ?_; rw [hbn]; rintro e w' ⟨rfl, rfl⟩) | (at_builtin; refine Mm.wp_app1S _ rfl _ _ (by rfl) w.heap.size _ acc (Pl.B pw) (by rfl) (by rfl) HO1.out (by omega) HB1.out.size ?_; intro v2 w2 hown2 hb2))
              have HO2 := Pl.hid hown2
              have HB2 := Pl.hid (HB1.out.trans hb2)
              clear hown2 hb2
              go_roundw
              case rel => exact ⟨_, g, acc ++ [Pl.L (Pl.B pw)], rfl, by rw [Pl.ext_size]; omega, HO2, (by show _ = _; rw [HWp.out, Pl.ext_drop]; exact H5.out), by simp; omega, HB2⟩
              case measure => simp only [Pl.strSz]; rw [Pl.ext_size]; omega
            · go_wp2_with (at_builtin; refine Mm.wp_app1S _ rfl _ _ (by rfl) w.heap.size _ acc (Pl.B pw) (by rfl) (by rfl) HO1.out (by omega) HB1.out.size ?_; intro v2 w2 hown2 hb2)
              have HO2 := Pl.hid hown2
              have HB2 := Pl.hid (HB1.out.trans hb2)
              clear hown2 hb2
              go_roundw
              case rel => exact ⟨_, g, acc ++ [Pl.L (Pl.B pw)], rfl, by rw [Pl.ext_size]; omega, HO2, (by show _ = _; rw [HWp.out, Pl.ext_drop]; exact H5.out), by simp; omega, HB2⟩
              case measure => simp only [Pl.strSz]; rw [Pl.ext_size]; omega
          · have e34 : (((m[0]'hpos).toNat : Int) == 34) = false := beq_eq_false_iff_ne.2 (by omega)
            by_cases h39 : (m[0]'hpos).toNat = 39
            · skip
              have HT := Pl.hid (Pl.tok_39 (s := m) (by rw [HH.out]; congr 1; exact Pl.u8_is (d := 39) h39 rfl) H3.out)
              have hn1 : 1 ≤ n := HT.out.2.2.1
              have hn2 : n ≤ m.size := HT.out.2.2.2
              have HWp : Hid (Pl.L (Pl.B pw) = pw) := Pl.L_B _
              have e39 : (((m[0]'hpos).toNat : Int) == 39) = true := beq_iff_eq.2 (by omega)
              clear h34 h39
              go_wp2_with (go_at_call 56; refine (blank_byte _ _).mono ?_; rw [hb]; rintro e w' ⟨rfl, rfl⟩)
              refine (single_walk m _ (by omega)).mono ?_
              rw [HT.out.1, HT.out.2.1]
              rintro e w1 ⟨rfl, hb1⟩
              have HO1 := Pl.hid (HO.out.below hb1)
              have HB1 := Pl.hid (HB.out.trans (hb1.mono HB.out.size))
              clear hb1
              rcases Nat.lt_or_ge n m.size with hnl | hnl
              · have hbn := Pl.head_drop hnl H4.out
                go_wp2_with (first | (go_at_call 56; refine (blank_byte _ _).mono ?_; rw [hbn]; rintro e w' ⟨rfl, rfl⟩) | (at_builtin; refine Mm.wp_app1S _ rfl _ _ (by rfl) w.heap.size _ acc (Pl.B pw) (by rfl) (by rfl) HO1.out (by omega) HB1.out.size ?_; intro v2 w2 hown2 hb2))
                have HO2 := Pl.hid hown2
                have HB2 := Pl.hid (HB1.out.trans hb2)
                clear hown2 hb2
                go_roundw
                case rel => exact ⟨_, g, acc ++ [Pl.L (Pl.B pw)], rfl, by rw [Pl.ext_size]; omega, HO2, (by show _ = _; rw [HWp.out, Pl.ext_drop]; exact H5.out), by simp; omega, HB2⟩
                case measure => simp only [Pl.strSz]; rw [Pl.ext_size]; omega
              · go_wp2_with (at_builtin; refine Mm.wp_app1S _ rfl _ _ (by rfl) w.heap.size _ acc (Pl.B pw) (by rfl) (by rfl) HO1.out (by omega) HB1.out.size ?_; intro v2 w2 hown2 hb2)
                have HO2 := Pl.hid hown2
                have HB2 := Pl.hid (HB1.out.trans hb2)
                clear hown2 hb2
                go_roundw
                case rel => exact ⟨_, g, acc ++ [Pl.L (Pl.B pw)], rfl, by rw [Pl.ext_size]; omega, HO2, (by show _ = _; rw [HWp.out, Pl.ext_drop]; exact H5.out), by simp; omega, HB2⟩
                case measure => simp only [Pl.strSz]; rw [Pl.ext_size]; omega
            · have e39 : (((m[0]'hpos).toNat : Int) == 39) = false := beq_eq_false_iff_ne.2 (by omega)
              have N34 : Hid ((Pl.L m).head? ≠ some 34) := fun h => h34 (by rw [HH.out] at h; injection h with h; rw [h]; rfl)
              have N39 : Hid ((Pl.L m).head? ≠ some 39) := fun h => h39 (by rw [HH.out] at h; injection h with h; rw [h]; rfl)
              clear h34 h39
              go_wp2_with (go_at_call 56; refine (blank_byte _ _).mono ?_; rw [hb]; rintro e w' ⟨rfl, rfl⟩)
              clear e34 e39 he hne
              go_loop [6] (fun nv => ∃ k : Nat, nv = .int .i64 k ∧ k ≤ m.size ∧ (k = 0 → 0 < m.size) ∧ Hid (∀ j, (hj : j < m.size) → j < k → Pl.blankB (m[j]'hj) = false)) (fun nv => m.size - (intOf nv).toNat)
              case atStart => exact ⟨0, rfl, Nat.zero_le _, fun _ => hpos, fun j hj h => by omega⟩
              case round =>
                obtain ⟨k, rfl, hk, _, HK⟩ := hrel
                rcases Nat.lt_or_ge k m.size with hkl | hkl
                · cases hbk : Pl.blankB (m[k]'hkl) with
                  | false =>
                    go_wp2_with (go_at_call 56; refine (blank_byte _ _).mono ?_; rw [hbk]; rintro e w' ⟨rfl, rfl⟩)
                    go_round
                    case rel => exact ⟨k + 1, by go_num, by omega, fun _ => hpos, fun j hj h => by
                      rcases Nat.lt_or_ge j k with h' | h'
                      · exact HK.out j hj h'
                      · obtain rfl : j = k := by omega
                        exact hbk⟩
                    case measure => simp [intOf]; omega
                  | true =>
                    have HT := Pl.hid (Pl.tok_plain N34.out N39.out H3.out hk HK.out (fun _ => hbk))
                    have hn1 : 1 ≤ k := by
                      rcases Nat.eq_zero_or_pos k with h | h
                      · subst h
                        rw [hb] at hbk
                        cases hbk
                      · exact h
                    have HWp : Hid (Pl.L (m.extract 0 k) = pw) := by
                      show _ = _
                      rw [← HT.out.2, Pl.L_B]
                    have HNK : Hid (n = k) := HT.out.1
                    rw [HNK.out] at H4 H5
                    clear hbk
                    have hnl := hkl
                    have hbn := Pl.head_drop hnl H4.out
                    go_wp2_with (first | (go_at_call 56; refine (blank_byte _ _).mono ?_; rw [hbn]; rintro e w' ⟨rfl, rfl⟩) | (at_builtin; refine Mm.wp_app1S _ rfl _ _ (by rfl) w.heap.size _ acc (m.extract 0 k) (by rfl) (by rfl) HO.out (by omega) HB.out.size ?_; intro v2 w2 hown2 hb2))
                    have HO2 := Pl.hid hown2
                    have HB2 := Pl.hid (HB.out.trans hb2)
                    clear hown2 hb2
                    go_roundw
                    case rel => exact ⟨_, g, acc ++ [Pl.L (m.extract 0 k)], rfl, by rw [Pl.ext_size]; omega, HO2, (by show _ = _; rw [HWp.out, Pl.ext_drop]; exact H5.out), by simp; omega, HB2⟩
                    case measure => simp only [Pl.strSz]; rw [Pl.ext_size]; omega
                · have HT := Pl.hid (Pl.tok_plain N34.out N39.out H3.out hk HK.out (fun h => by omega))
                  have hn1 : 1 ≤ k := by omega
                  have HWp : Hid (Pl.L (m.extract 0 k) = pw) := by
                    show _ = _
                    rw [← HT.out.2, Pl.L_B]
                  have HNK : Hid (n = k) := HT.out.1
                  rw [HNK.out] at H4 H5
                  go_wp2_with (at_builtin; refine Mm.wp_app1S _ rfl _ _ (by rfl) w.heap.size _ acc (m.extract 0 k) (by rfl) (by rfl) HO.out (by omega) HB.out.size ?_; intro v2 w2 hown2 hb2)
                  have HO2 := Pl.hid hown2
                  have HB2 := Pl.hid (HB.out.trans hb2)
                  clear hown2 hb2
                  go_roundw
                  case rel => exact ⟨_, g, acc ++ [Pl.L (m.extract 0 k)], rfl, by rw [Pl.ext_size]; omega, HO2, (by show _ = _; rw [HWp.out, Pl.ext_drop]; exact H5.out), by simp; omega, HB2⟩
                  case measure => simp only [Pl.strSz]; rw [Pl.ext_size]; omega
end Go.Proofs.YtakldjdohgmeiaaDoor
