/- request.Inline of a line that is no row of words: it tells some error. Conditions: the six errors stand as they were laid; a line of at most 4096 bytes. -/
import Derived.Test.YtakldjdohgmeiaaDoorParG
namespace Go.Proofs.YtakldjdohgmeiaaDoor
open Go.RowKit
set_option maxRecDepth 20000

namespace Pl
theorem tok_le {c : UInt8} {r : List UInt8} {p : List UInt8 × Nat} (hb : blankB c = false) (h : tok (c :: r) = some p) : 1 ≤ p.2 := by
  unfold tok at h
  split at h
  · cases hq : dbl (c :: r).length (c :: r).tail with
    | none => rw [hq] at h; cases h
    | some q => rw [hq] at h; injection h with h; subst h; exact Nat.succ_le_succ (Nat.zero_le _)
  · split at h
    · cases hq : sgl (c :: r).length (c :: r).tail with
      | none => rw [hq] at h; cases h
      | some q => rw [hq] at h; injection h with h; subst h; exact Nat.succ_le_succ (Nat.zero_le _)
    · injection h with h
      subst h
      simp [hb]
theorem inl_bad {f : Nat} {l : List UInt8} {acc : List (List UInt8)} (h : (inl f l acc).1 ≠ 0) (hf : l.length < f) :
    ∃ g, f = g + 1 ∧ l.dropWhile blankB ≠ [] ∧ (acc.length = 1024 ∨ acc.length ≠ 1024 ∧ (tok (l.dropWhile blankB) = none ∨ ∃ p : List UInt8 × Nat, tok (l.dropWhile blankB) = some p ∧
      (((l.dropWhile blankB).drop p.2).head?.any (fun d => !blankB d) = true ∨ ((l.dropWhile blankB).drop p.2).head?.any (fun d => !blankB d) = false ∧ (inl g ((l.dropWhile blankB).drop p.2) (acc ++ [p.1])).1 ≠ 0 ∧ ((l.dropWhile blankB).drop p.2).length < g))) := by
  cases f with
  | zero => omega
  | succ f =>
    refine ⟨f, rfl, ?_⟩
    unfold inl at h
    have hle : (l.dropWhile blankB).length ≤ l.length := (List.dropWhile_sublist _).length_le
    cases hd : l.dropWhile blankB with
    | nil => rw [hd] at h; exact absurd rfl h
    | cons c r =>
      have hbc : blankB c = false := by
        have := List.head?_dropWhile_not blankB l
        rw [hd] at this
        simpa using this
      rw [hd] at h hle
      simp only at h
      refine ⟨by simp, ?_⟩
      by_cases h1 : acc.length = 1024
      · exact .inl h1
      · rw [if_neg h1] at h
        refine .inr ⟨h1, ?_⟩
        cases ht : tok (c :: r) with
        | none => exact .inl rfl
        | some p =>
          refine .inr ⟨p, rfl, ?_⟩
          rw [ht] at h
          simp only at h
          cases hb : ((c :: r).drop p.2).head?.any (fun d => !blankB d) with
          | true => exact .inl rfl
          | false =>
            rw [hb] at h
            have h1 := tok_le hbc ht
            refine .inr ⟨rfl, by simpa using h, ?_⟩
            rw [List.length_drop]
            have : (c :: r).length = r.length + 1 := rfl
            omega
theorem tok_34n {s : ByteArray} (hh : (L s).head? = some 34) (h : tok (L s) = none) : qN (dbO s) = -1 := by
  unfold tok at h
  rw [if_pos hh, L_length] at h
  have e : dbO s = dbl s.size (L s).tail := by
    unfold dbO
    rw [List.drop_one]
  rw [e]
  cases hq : dbl s.size (L s).tail with
  | none => rfl
  | some q => rw [hq] at h; cases h
theorem tok_39n {s : ByteArray} (hh : (L s).head? = some 39) (h : tok (L s) = none) : qN (sgO s) = -1 := by
  unfold tok at h
  rw [if_neg (by rw [hh]; decide), if_pos hh, L_length] at h
  have e : sgO s = sgl s.size (L s).tail := by
    unfold sgO
    rw [List.drop_one]
  rw [e]
  cases hq : sgl s.size (L s).tail with
  | none => rfl
  | some q => rw [hq] at h; cases h
theorem tok_plainn {l : List UInt8} (h34 : l.head? ≠ some 34) (h39 : l.head? ≠ some 39) : tok l ≠ none := by
  unfold tok
  rw [if_neg h34, if_neg h39]
  simp
theorem head_nb {s : ByteArray} {n : Nat} (h : n < s.size) (hb : ((L s).drop n).head?.any (fun d => !blankB d) = true) : blankB (s[n]'h) = false := by
  rw [drop_get s n h] at hb
  simpa using hb
theorem head_end {s : ByteArray} {n : Nat} (h : s.size ≤ n) : ((L s).drop n).head?.any (fun d => !blankB d) = false := by
  rw [drop_end s n h]
  rfl
end Pl

set_option maxHeartbeats 8000000 in
theorem inline_bad (s : ByteArray) (f0 : Nat) (W w : World) (hR : Mm.RErr W) (hW : Below W.heap.size W w) (hs : s.size ≤ 4096) (hf : s.size < f0) (hin : (Pl.inl f0 (Pl.L s) []).1 ≠ 0) :
    Calls Tryd.prog 38 #[.string s] w fun e w' => (∃ T x, e = .returned (.tuple #[.slice none 0 0, .iface T x])) ∧ Below w.heap.size w w' := by
  have HIN := Pl.hid hin
  have HR := Pl.hid hR
  have HW := Pl.hid hW
  have HWs := Pl.hid hW.size
  clear hin hR hW
  go_enter Tryd.func38, Tryd.ntmps38
  go_wp2_with fail
  go_loopw [0, 4] (fun lv wv wr => ∃ (l : ByteArray) (f : Nat) (acc : List (List UInt8)), lv = .string l ∧ l.size ≤ 4096 ∧ Hid (Mm.OwnS wr w.heap.size wv acc) ∧ Hid ((Pl.inl f (Pl.L l) acc).1 ≠ 0) ∧ Hid (l.size < f) ∧ acc.length ≤ 1024 ∧ Hid (Below w.heap.size w wr)) (fun lv _ _ => Pl.strSz lv)
  case atStart => exact ⟨s, f0, [], rfl, hs, Mm.ownS_nil _ _, HIN, hf, by decide, Below.refl _ _⟩
  case round =>
    obtain ⟨l, f, acc, rfl, hl, HO, HQ, HLF, hacc, HB⟩ := hrel
    go_wp2_with fail
    go_loop [0] (fun mv => ∃ m : ByteArray, mv = .string m ∧ m.size ≤ l.size ∧ Hid ((Pl.L m).dropWhile Pl.blankB = (Pl.L l).dropWhile Pl.blankB)) (fun mv => Pl.strSz mv)
    case atStart => exact ⟨l, rfl, Nat.le_refl _, rfl⟩
    case round =>
      obtain ⟨m, rfl, hm, HM⟩ := hrel
      obtain ⟨g, hfg, hne0, hcases⟩ := Pl.inl_bad HQ.out (by rw [Pl.L_length]; exact HLF.out)
      rw [← HM.out] at hne0 hcases
      rcases Nat.eq_zero_or_pos m.size with h0 | hpos
      · obtain rfl : m = ⟨#[]⟩ := Pl.ba_ext (List.eq_nil_of_length_eq_zero (by rw [Pl.L_length]; exact h0))
        exact absurd rfl hne0
      · have he := Pl.toL_full hpos
        cases hb : Pl.blankB (m[0]'hpos) with
        | true =>
          have HM2 := Pl.hid ((Pl.drop_blank hpos hb).trans HM.out)
          have HZ := Pl.hid (Pl.ext_size m 1)
          clear hcases hne0 hfg
          go_wp2_with (go_at_call 56; refine (blank_byte _ _).mono ?_; rw [hb]; rintro e w' ⟨rfl, rfl⟩)
          go_round
          case rel => exact ⟨_, rfl, by rw [HZ.out]; omega, HM2⟩
          case measure => simp only [Pl.strSz]; rw [HZ.out]; omega
        | false =>
          rw [Pl.drop_word hpos hb] at hcases
          have HWr : Hid (Below W.heap.size W wr) := HW.out.trans (HB.out.mono HWs.out)
          obtain ⟨av, cv, rfl, hval⟩ := HO.out.val
          have HVal := Pl.hid hval
          have HFG := Pl.hid hfg
          have HH := Pl.hid (Pl.head_L m hpos)
          clear hval hne0 hfg
          rcases hcases with h1024 | ⟨h1024, hcases⟩
          · have hq1 : ((acc.length : Int) == 1024) = true := beq_iff_eq.2 (by omega)
            obtain ⟨TC, xc, hxc⟩ := HWr.out |> (fun h => (HR.out.on h).here 1 (by simp))
            clear h1024
            go_wp2_with (go_at_call 56; refine (blank_byte _ _).mono ?_; rw [hb]; rintro e w' ⟨rfl, rfl⟩)
            go_quiet (fail)
            go_wp2_with fail
            go_ret2
            exact ⟨⟨_, _, rfl⟩, HB.out.trans (Mm.below_drewN _ _)⟩
          · have hne : ((acc.length : Int) == 1024) = false := beq_eq_false_iff_ne.2 (by omega)
            have hacc' : acc.length < 1024 := by omega
            have HCS := Pl.hid hcases
            clear hcases h1024 hacc
            by_cases h34 : (m[0]'hpos).toNat = 34
            · have e34 : (((m[0]'hpos).toNat : Int) == 34) = true := beq_iff_eq.2 (by omega)
              rcases HCS.out with hnone | ⟨⟨pw, n⟩, h3, hrest⟩
              · have HT := Pl.hid (Pl.tok_34n (s := m) (by rw [HH.out]; congr 1; exact Pl.u8_is (d := 34) h34 rfl) hnone)
                obtain ⟨TQ, xq, hxq⟩ := (HR.out.on HWr.out).here 2 (by simp)
                clear hnone h34 HCS
                go_wp2_with (go_at_call 56; refine (blank_byte _ _).mono ?_; rw [hb]; rintro e w' ⟨rfl, rfl⟩)
                refine (double_walk m _ (by omega)).mono ?_
                rw [HT.out]
                rintro e w1 ⟨rfl, hb1⟩
                have HB1 := Pl.hid (HB.out.trans (hb1.mono HB.out.size))
                obtain ⟨TQ, xq, hxq⟩ := (HR.out.on (HWr.out.trans (hb1.mono HWr.out.size))).here 2 (by simp)
                clear hb1
                go_wp2_with fail
                go_quiet (fail)
                go_wp2_with fail
                go_ret2
                exact ⟨⟨_, _, rfl⟩, HB1.out.trans (Mm.below_drewN _ _)⟩
              · have HT := Pl.hid (Pl.tok_34 (s := m) (by rw [HH.out]; congr 1; exact Pl.u8_is (d := 34) h34 rfl) h3)
                have hn1 : 1 ≤ n := HT.out.2.2.1
                have hn2 : n ≤ m.size := HT.out.2.2.2
                have HWp : Hid (Pl.L (Pl.B pw) = pw) := Pl.L_B _
                have HRS := Pl.hid hrest
                clear h34 h3 hrest HCS
                go_wp2_with (go_at_call 56; refine (blank_byte _ _).mono ?_; rw [hb]; rintro e w' ⟨rfl, rfl⟩)
                refine (double_walk m _ (by omega)).mono ?_
                rw [HT.out.1, HT.out.2.1]
                rintro e w1 ⟨rfl, hb1⟩
                have HO1 := Pl.hid (HO.out.below hb1)
                have HB1 := Pl.hid (HB.out.trans (hb1.mono HB.out.size))
                obtain ⟨TQ, xq, hxq⟩ := (HR.out.on (HWr.out.trans (hb1.mono HWr.out.size))).here 2 (by simp)
                clear hb1
                rcases Nat.lt_or_ge n m.size with hnl | hnl
                · rcases HRS.out with hnb | ⟨h4, h5, h6⟩
                  · have hbn := Pl.head_nb hnl hnb
                    clear hnb
                    go_wp2_with (go_at_call 56; refine (blank_byte _ _).mono ?_; rw [hbn]; rintro e w' ⟨rfl, rfl⟩)
                    go_quiet (fail)
                    go_wp2_with fail
                    go_ret2
                    exact ⟨⟨_, _, rfl⟩, HB1.out.trans (Mm.below_drewN _ _)⟩
                  · have hbn := Pl.head_drop hnl h4
                    have H5 := Pl.hid h5
                    have H6 := Pl.hid h6
                    clear h4 h5 h6 hxq
                    go_wp2_with (first | (go_at_call 56; refine (blank_byte _ _).mono ?_; rw [hbn]; rintro e w' ⟨rfl, rfl⟩) | (at_builtin; refine Mm.wp_app1S _ rfl _ _ (by rfl) w.heap.size _ acc (Pl.B pw) (by rfl) (by rfl) HO1.out (by omega) HB1.out.size ?_; intro v2 w2 hown2 hb2))
                    have HO2 := Pl.hid hown2
                    have HB2 := Pl.hid (HB1.out.trans hb2)
                    clear hown2 hb2
                    go_roundw
                    case rel => exact ⟨_, g, acc ++ [Pl.L (Pl.B pw)], rfl, by rw [Pl.ext_size]; omega, HO2, (by show _ ≠ _; rw [HWp.out, Pl.ext_drop]; exact H5.out), (by show _ < _; have := H6.out; rw [← Pl.ext_drop, Pl.L_length] at this; exact this), by simp; omega, HB2⟩
                    case measure => simp only [Pl.strSz]; rw [Pl.ext_size]; omega
                · rcases HRS.out with hnb | ⟨h4, h5, h6⟩
                  · rw [Pl.head_end hnl] at hnb
                    cases hnb
                  · have H5 := Pl.hid h5
                    have H6 := Pl.hid h6
                    clear h4 h5 h6 hxq
                    go_wp2_with (at_builtin; refine Mm.wp_app1S _ rfl _ _ (by rfl) w.heap.size _ acc (Pl.B pw) (by rfl) (by rfl) HO1.out (by omega) HB1.out.size ?_; intro v2 w2 hown2 hb2)
                    have HO2 := Pl.hid hown2
                    have HB2 := Pl.hid (HB1.out.trans hb2)
                    clear hown2 hb2
                    go_roundw
                    case rel => exact ⟨_, g, acc ++ [Pl.L (Pl.B pw)], rfl, by rw [Pl.ext_size]; omega, HO2, (by show _ ≠ _; rw [HWp.out, Pl.ext_drop]; exact H5.out), (by show _ < _; have := H6.out; rw [← Pl.ext_drop, Pl.L_length] at this; exact this), by simp; omega, HB2⟩
                    case measure => simp only [Pl.strSz]; rw [Pl.ext_size]; omega
            · have e34 : (((m[0]'hpos).toNat : Int) == 34) = false := beq_eq_false_iff_ne.2 (by omega)
              by_cases h39 : (m[0]'hpos).toNat = 39
              · have e39 : (((m[0]'hpos).toNat : Int) == 39) = true := beq_iff_eq.2 (by omega)
                rcases HCS.out with hnone | ⟨⟨pw, n⟩, h3, hrest⟩
                · have HT := Pl.hid (Pl.tok_39n (s := m) (by rw [HH.out]; congr 1; exact Pl.u8_is (d := 39) h39 rfl) hnone)
                  obtain ⟨TQ, xq, hxq⟩ := (HR.out.on HWr.out).here 2 (by simp)
                  clear hnone h39 HCS h34
                  go_wp2_with (go_at_call 56; refine (blank_byte _ _).mono ?_; rw [hb]; rintro e w' ⟨rfl, rfl⟩)
                  refine (single_walk m _ (by omega)).mono ?_
                  rw [HT.out]
                  rintro e w1 ⟨rfl, hb1⟩
                  have HB1 := Pl.hid (HB.out.trans (hb1.mono HB.out.size))
                  obtain ⟨TQ, xq, hxq⟩ := (HR.out.on (HWr.out.trans (hb1.mono HWr.out.size))).here 2 (by simp)
                  clear hb1
                  go_wp2_with fail
                  go_quiet (fail)
                  go_wp2_with fail
                  go_ret2
                  exact ⟨⟨_, _, rfl⟩, HB1.out.trans (Mm.below_drewN _ _)⟩
                · have HT := Pl.hid (Pl.tok_39 (s := m) (by rw [HH.out]; congr 1; exact Pl.u8_is (d := 39) h39 rfl) h3)
                  have hn1 : 1 ≤ n := HT.out.2.2.1
                  have hn2 : n ≤ m.size := HT.out.2.2.2
                  have HWp : Hid (Pl.L (Pl.B pw) = pw) := Pl.L_B _
                  have HRS := Pl.hid hrest
                  clear h39 h3 hrest HCS h34
                  go_wp2_with (go_at_call 56; refine (blank_byte _ _).mono ?_; rw [hb]; rintro e w' ⟨rfl, rfl⟩)
                  refine (single_walk m _ (by omega)).mono ?_
                  rw [HT.out.1, HT.out.2.1]
                  rintro e w1 ⟨rfl, hb1⟩
                  have HO1 := Pl.hid (HO.out.below hb1)
                  have HB1 := Pl.hid (HB.out.trans (hb1.mono HB.out.size))
                  obtain ⟨TQ, xq, hxq⟩ := (HR.out.on (HWr.out.trans (hb1.mono HWr.out.size))).here 2 (by simp)
                  clear hb1
                  rcases Nat.lt_or_ge n m.size with hnl | hnl
                  · rcases HRS.out with hnb | ⟨h4, h5, h6⟩
                    · have hbn := Pl.head_nb hnl hnb
                      clear hnb
                      go_wp2_with (go_at_call 56; refine (blank_byte _ _).mono ?_; rw [hbn]; rintro e w' ⟨rfl, rfl⟩)
                      go_quiet (fail)
                      go_wp2_with fail
                      go_ret2
                      exact ⟨⟨_, _, rfl⟩, HB1.out.trans (Mm.below_drewN _ _)⟩
                    · have hbn := Pl.head_drop hnl h4
                      have H5 := Pl.hid h5
                      have H6 := Pl.hid h6
                      clear h4 h5 h6 hxq
                      go_wp2_with (first | (go_at_call 56; refine (blank_byte _ _).mono ?_; rw [hbn]; rintro e w' ⟨rfl, rfl⟩) | (at_builtin; refine Mm.wp_app1S _ rfl _ _ (by rfl) w.heap.size _ acc (Pl.B pw) (by rfl) (by rfl) HO1.out (by omega) HB1.out.size ?_; intro v2 w2 hown2 hb2))
                      have HO2 := Pl.hid hown2
                      have HB2 := Pl.hid (HB1.out.trans hb2)
                      clear hown2 hb2
                      go_roundw
                      case rel => exact ⟨_, g, acc ++ [Pl.L (Pl.B pw)], rfl, by rw [Pl.ext_size]; omega, HO2, (by show _ ≠ _; rw [HWp.out, Pl.ext_drop]; exact H5.out), (by show _ < _; have := H6.out; rw [← Pl.ext_drop, Pl.L_length] at this; exact this), by simp; omega, HB2⟩
                      case measure => simp only [Pl.strSz]; rw [Pl.ext_size]; omega
                  · rcases HRS.out with hnb | ⟨h4, h5, h6⟩
                    · rw [Pl.head_end hnl] at hnb
                      cases hnb
                    · have H5 := Pl.hid h5
                      have H6 := Pl.hid h6
                      clear h4 h5 h6 hxq
                      go_wp2_with (at_builtin; refine Mm.wp_app1S _ rfl _ _ (by rfl) w.heap.size _ acc (Pl.B pw) (by rfl) (by rfl) HO1.out (by omega) HB1.out.size ?_; intro v2 w2 hown2 hb2)
                      have HO2 := Pl.hid hown2
                      have HB2 := Pl.hid (HB1.out.trans hb2)
                      clear hown2 hb2
                      go_roundw
                      case rel => exact ⟨_, g, acc ++ [Pl.L (Pl.B pw)], rfl, by rw [Pl.ext_size]; omega, HO2, (by show _ ≠ _; rw [HWp.out, Pl.ext_drop]; exact H5.out), (by show _ < _; have := H6.out; rw [← Pl.ext_drop, Pl.L_length] at this; exact this), by simp; omega, HB2⟩
                      case measure => simp only [Pl.strSz]; rw [Pl.ext_size]; omega
              · skip
                have e39 : (((m[0]'hpos).toNat : Int) == 39) = false := beq_eq_false_iff_ne.2 (by omega)
                have N34 : Hid ((Pl.L m).head? ≠ some 34) := fun h => h34 (by rw [HH.out] at h; injection h with h; rw [h]; rfl)
                have N39 : Hid ((Pl.L m).head? ≠ some 39) := fun h => h39 (by rw [HH.out] at h; injection h with h; rw [h]; rfl)
                obtain ⟨⟨pw, n⟩, h3, hrest⟩ : ∃ p : List UInt8 × Nat, Pl.tok (Pl.L m) = some p ∧ _ := by
                  rcases HCS.out with h | h
                  · exact absurd h (Pl.tok_plainn N34.out N39.out)
                  · exact h
                have H3 := Pl.hid h3
                have HRS := Pl.hid hrest
                clear h34 h39 h3 hrest HCS
                go_wp2_with (go_at_call 56; refine (blank_byte _ _).mono ?_; rw [hb]; rintro e w' ⟨rfl, rfl⟩)
                clear e34 e39 he hne
                go_loop [6] (fun nv => ∃ k : Nat, nv = .int .i64 k ∧ k ≤ m.size ∧ (k = 0 → 0 < m.size) ∧ Hid (∀ j, (hj : j < m.size) → j < k → Pl.blankB (m[j]'hj) = false)) (fun nv => m.size - (intOf nv).toNat)
                case atStart => exact ⟨0, rfl, Nat.zero_le _, fun _ => hpos, fun j hj h => by omega⟩
                case round =>
                  obtain ⟨k, rfl, hk, _, HK⟩ := hrel
                  rcases Nat.lt_or_ge k m.size with hkl | hkl
                  · cases hbk : Pl.blankB (m[k]'hkl) with
                    | false =>
                      go_wp2_with (go_at_call 56; refine (blank_byte _ _).mono ?_; rw [hbk]; rintro e w' ⟨rfl, rfl⟩)
                      go_round
                      case rel => exact ⟨k + 1, by go_num, by omega, fun _ => hpos, fun j hj h => by
                        rcases Nat.lt_or_ge j k with h' | h'
                        · exact HK.out j hj h'
                        · obtain rfl : j = k := by omega
                          exact hbk⟩
                      case measure => simp [intOf]; omega
                    | true =>
                      have HT := Pl.hid (Pl.tok_plain N34.out N39.out H3.out hk HK.out (fun _ => hbk))
                      have hn1 : 1 ≤ k := by
                        rcases Nat.eq_zero_or_pos k with h | h
                        · subst h
                          rw [hb] at hbk
                          cases hbk
                        · exact h
                      have HWp : Hid (Pl.L (m.extract 0 k) = pw) := by
                        show _ = _
                        rw [← HT.out.2, Pl.L_B]
                      have HNK : Hid (n = k) := HT.out.1
                      rcases HRS.out with hnb | ⟨h4, h5, h6⟩
                      · have hnb' : ((Pl.L m).drop k).head?.any (fun d => !Pl.blankB d) = true := by rw [← HNK.out]; exact hnb
                        rw [Pl.head_nb hkl hnb'] at hbk
                        cases hbk
                      · have h4' : ((Pl.L m).drop n).head?.any (fun d => !Pl.blankB d) = false := h4
                        have h5' : (Pl.inl g ((Pl.L m).drop n) (acc ++ [pw])).1 ≠ 0 := h5
                        have h6' : ((Pl.L m).drop n).length < g := h6
                        rw [HNK.out] at h4' h5' h6'
                        have H5 := Pl.hid h5'
                        have H6 := Pl.hid h6'
                        have hbn := Pl.head_drop hkl h4'
                        clear hbk h4 h5 h6 h4' h5' h6'
                        go_wp2_with (first | (go_at_call 56; refine (blank_byte _ _).mono ?_; rw [hbn]; rintro e w' ⟨rfl, rfl⟩) | (at_builtin; refine Mm.wp_app1S _ rfl _ _ (by rfl) w.heap.size _ acc (m.extract 0 k) (by rfl) (by rfl) HO.out (by omega) HB.out.size ?_; intro v2 w2 hown2 hb2))
                        have HO2 := Pl.hid hown2
                        have HB2 := Pl.hid (HB.out.trans hb2)
                        clear hown2 hb2
                        go_roundw
                        case rel => exact ⟨_, g, acc ++ [Pl.L (m.extract 0 k)], rfl, by rw [Pl.ext_size]; omega, HO2, (by show _ ≠ _; rw [HWp.out, Pl.ext_drop]; exact H5.out), (by show _ < _; have := H6.out; rw [← Pl.ext_drop, Pl.L_length] at this; exact this), by simp; omega, HB2⟩
                        case measure => simp only [Pl.strSz]; rw [Pl.ext_size]; omega
                  · have HT := Pl.hid (Pl.tok_plain N34.out N39.out H3.out hk HK.out (fun h => by omega))
                    have hn1 : 1 ≤ k := by omega
                    have HWp : Hid (Pl.L (m.extract 0 k) = pw) := by
                      show _ = _
                      rw [← HT.out.2, Pl.L_B]
                    have HNK : Hid (n = k) := HT.out.1
                    rcases HRS.out with hnb | ⟨h4, h5, h6⟩
                    · have hnb' : ((Pl.L m).drop k).head?.any (fun d => !Pl.blankB d) = true := by rw [← HNK.out]; exact hnb
                      rw [Pl.head_end hkl] at hnb'
                      cases hnb'
                    · have h5' : (Pl.inl g ((Pl.L m).drop n) (acc ++ [pw])).1 ≠ 0 := h5
                      have h6' : ((Pl.L m).drop n).length < g := h6
                      rw [HNK.out] at h5' h6'
                      have H5 := Pl.hid h5'
                      have H6 := Pl.hid h6'
                      clear h4 h5 h6 h5' h6'
                      go_wp2_with (at_builtin; refine Mm.wp_app1S _ rfl _ _ (by rfl) w.heap.size _ acc (m.extract 0 k) (by rfl) (by rfl) HO.out (by omega) HB.out.size ?_; intro v2 w2 hown2 hb2)
                      have HO2 := Pl.hid hown2
                      have HB2 := Pl.hid (HB.out.trans hb2)
                      clear hown2 hb2
                      go_roundw
                      case rel => exact ⟨_, g, acc ++ [Pl.L (m.extract 0 k)], rfl, by rw [Pl.ext_size]; omega, HO2, (by show _ ≠ _; rw [HWp.out, Pl.ext_drop]; exact H5.out), (by show _ < _; have := H6.out; rw [← Pl.ext_drop, Pl.L_length] at this; exact this), by simp; omega, HB2⟩
                      case measure => simp only [Pl.strSz]; rw [Pl.ext_size]; omega
theorem inlE (W : World) (hR : Mm.RErr W) : Mm.InlE W := fun s w hs hW hin => inline_bad s 4098 W w hR hW hs (by omega) hin
end Go.Proofs.YtakldjdohgmeiaaDoor
