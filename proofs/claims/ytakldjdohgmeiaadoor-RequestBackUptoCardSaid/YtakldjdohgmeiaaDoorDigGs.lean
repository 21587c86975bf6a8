/- Contracts of digit.Text, digit.Int: how a number is written and read. Conditions: the table of powers and the two errors of the library stand as they were laid; texts within the form's reach. -/
import Derived.Test.YtakldjdohgmeiaaDoorDigE
import Derived.Test.YtakldjdohgmeiaaDoorShelfA
import Derived.Test.YtakldjdohgmeiaaDoorMem
import Derived.Lib.AppendIntMem
import Derived.Lib.LaidTab
namespace Go.Proofs.YtakldjdohgmeiaaDoor
open Go.RowKit
set_option maxRecDepth 20000

namespace Mm
/-- what stands whatever is done at new blocks -/
def Stays (F : World → Prop) (w : World) : Prop := ∀ w', Below w.heap.size w w' → F w'
theorem Stays.on {F : World → Prop} {w w' : World} (h : Stays F w) (hb : Below w.heap.size w w') : Stays F w' := fun _ hb' => h _ (hb.trans (hb'.mono hb.size))
theorem Stays.here {F : World → Prop} {w : World} (h : Stays F w) : F w := h _ (Below.refl _ _)
theorem var_below {w w' : World} {n : String} {cs : Array Value} (hb : Below w.heap.size w w') (h : w.var? Tryd.prog n = some cs) : w'.var? Tryd.prog n = some cs := by
  unfold World.var? at *
  cases hg : Program.globalNamed Tryd.prog n with
  | none => simp [hg] at h
  | some g =>
    simp only [hg, Option.bind_some] at h ⊢
    have hlt : g < w.heap.size := by
      rcases Nat.lt_or_ge g w.heap.size with h' | h'
      · exact h'
      · rw [Array.getElem?_eq_none h'] at h; simp at h
    rw [hb.block g hlt]
    exact h
def Tab (w : World) : Prop := Stays (fun w => Lib.TabIs Tryd.prog w "internal/strconv.uint64pow10" .u64 Lib.pow10Tab) w
def Errs (w : World) : Prop := Stays (fun w => (∃ tp p, w.var? Tryd.prog "strconv.ErrSyntax" = some #[.iface tp p]) ∧ (∃ tp p, w.var? Tryd.prog "strconv.ErrRange" = some #[.iface tp p])) w
theorem tab_of {w : World} (h : Lib.TabIs Tryd.prog w "internal/strconv.uint64pow10" .u64 Lib.pow10Tab) : Tab w := fun _ hb => Lib.tabBelow_of_tabIs h _ hb
theorem errs_of {w : World} (h1 : ∃ tp p, w.var? Tryd.prog "strconv.ErrSyntax" = some #[.iface tp p]) (h2 : ∃ tp p, w.var? Tryd.prog "strconv.ErrRange" = some #[.iface tp p]) : Errs w := fun w' hb => by
  obtain ⟨t1, p1, h1⟩ := h1
  obtain ⟨t2, p2, h2⟩ := h2
  exact ⟨⟨t1, p1, var_below hb h1⟩, ⟨t2, p2, var_below hb h2⟩⟩
theorem below_grow (w : World) (k : Nat) (os : Array Obj) : Below w.heap.size w (Sort.grow (w.drewN k) os) := Lib.below_grow _ w (Nat.le_refl _) k os
end Mm

theorem text_walk (n : Int) (w : World) (hn : Pl.In64 n) (hT : Mm.Tab w) :
    Calls Tryd.prog 61 #[.int .i64 n] w fun e w' => e = .returned (.string (Pl.B (Lib.itoa n))) ∧ Below w.heap.size w w' := by
  have HT := Pl.hid hT
  have HN := Pl.hid hn
  clear hT hn
  go_enter Tryd.func61, Tryd.ntmps61
  go_wp2_with fail
  refine (Tryd.strconv_FormatInt_10 n HN.out.1 HN.out.2 _ HT.out.here).mono ?_
  rintro e w1 ⟨rfl, k, os, rfl⟩
  have H := Pl.hid (Mm.below_grow w k os)
  go_wp2_with fail
  go_ret
  exact ⟨rfl, H.out⟩

/-! how the library's two readers end -/
theorem pint_walk (s : ByteArray) (w : World) (hs : s.size ≤ 140737488351232) (hE : Mm.Errs w) :
    Calls Tryd.prog 85 #[.string s, .int .i64 10, .int .i64 64] w fun e w' => (∃ v ev, e = .returned (.tuple #[.int .i64 v, ev]) ∧ (ev = .nilIface ∧ Lib.parseIntB 64 (Pl.L s) = .ok v ∨ (∃ tp p, ev = .iface tp (.pointer (some p))) ∧ ∀ u, Lib.parseIntB 64 (Pl.L s) ≠ .ok u)) ∧ Below w.heap.size w w' := by
  obtain ⟨⟨t1, p1, h1⟩, ⟨t2, p2, h2⟩⟩ := hE.here
  rcases h : Lib.parseIntB 64 s.data.toList with v | _ | _
  · skip
    refine (Tryd.strconv_ParseInt_10_at64_ok s (by omega) v h w).mono ?_
    rintro e w1 ⟨rfl, hw⟩
    refine ⟨⟨v, _, rfl, .inl ⟨rfl, h⟩⟩, ?_⟩
    rcases hw with rfl | ⟨t, rfl⟩
    · exact Below.refl _ _
    · exact Lib.bytesWorld_below _ _ _
  · refine (Tryd.strconv_ParseInt_10_at64_syntax_var s (by omega) h t1 p1 w h1).mono ?_
    rintro e w1 ⟨N, rfl, _, _, hb⟩
    exact ⟨⟨_, _, rfl, .inr ⟨⟨_, _, rfl⟩, fun u e => by unfold Pl.L at e; rw [h] at e; cases e⟩⟩, hb⟩
  · refine (Tryd.strconv_ParseInt_10_at64_range_var s (by omega) h t2 p2 w h2).mono ?_
    rintro e w1 ⟨N, rfl, _, _, hb⟩
    exact ⟨⟨_, _, rfl, .inr ⟨⟨_, _, rfl⟩, fun u e => by unfold Pl.L at e; rw [h] at e; cases e⟩⟩, hb⟩
namespace Pl
theorem rI_ok {l : List UInt8} {v : Int} (h : Lib.parseIntB 64 l = .ok v) (hp : plainW (iW l) = true) : v = rIv l ∧ 0 = rIc l := by
  have e := cI_eq l
  unfold cI at e
  rw [h] at e
  simp only [hp, if_true] at e
  unfold rIv rIc
  rw [← e]
  exact ⟨rfl, rfl⟩
theorem rI_none {l : List UInt8} (h : rI l = none) : 0 = rIv l ∧ 10 = rIc l := by
  unfold rIv rIc
  rw [h]
  exact ⟨rfl, rfl⟩
theorem rI_err {l : List UInt8} (h : ∀ u, Lib.parseIntB 64 l ≠ .ok u) : 0 = rIv l ∧ 10 = rIc l := by
  apply rI_none
  rw [← cI_eq]
  unfold cI
  rcases e : Lib.parseIntB 64 l with v | _ | _
  · exact absurd e (h v)
  · rfl
  · rfl
theorem rI_not {l : List UInt8} (h : plainW (iW l) = false) : 0 = rIv l ∧ 10 = rIc l := by
  apply rI_none
  rw [← cI_eq]
  unfold cI
  rw [h]
  cases e : Lib.parseIntB 64 l <;> rfl
theorem rU_ok {l : List UInt8} {v : Nat} (h : Lib.parseUintB 64 l = .ok v) (hp : plainW l = true) : (v : Int) = rUv l ∧ 0 = rUc l := by
  have e := cU_eq l
  unfold cU at e
  rw [h] at e
  simp only [hp, if_true] at e
  unfold rUv rUc
  rw [← e]
  exact ⟨rfl, rfl⟩
theorem rU_none {l : List UInt8} (h : rU l = none) : 0 = rUv l ∧ 10 = rUc l := by
  unfold rUv rUc
  rw [h]
  exact ⟨rfl, rfl⟩
theorem rU_err {l : List UInt8} (h : ∀ u, Lib.parseUintB 64 l ≠ .ok u) : 0 = rUv l ∧ 10 = rUc l := by
  apply rU_none
  rw [← cU_eq]
  unfold cU
  rcases e : Lib.parseUintB 64 l with v | _ | _
  · exact absurd e (h v)
  · rfl
  · rfl
theorem rU_not {l : List UInt8} (h : plainW l = false) : 0 = rUv l ∧ 10 = rUc l := by
  apply rU_none
  rw [← cU_eq]
  unfold cU
  rw [h]
  cases e : Lib.parseUintB 64 l <;> rfl
theorem iW_same {l : List UInt8} (h : ¬ (1 < l.length ∧ l.head? = some 45 ∧ l ≠ [45, 48])) : iW l = l := if_neg h
theorem iW_tail {s : ByteArray} (h1 : 1 < s.size) (h2 : (L s).head? = some 45) (h3 : L s ≠ [45, 48]) : L (s.extract 1 s.size) = iW (L s) := by
  rw [show iW (L s) = (L s).tail from if_pos ⟨by rw [L_length]; exact h1, h2, h3⟩, extract_B, L_B]
  unfold slc
  rw [List.take_of_length_le (by rw [List.length_drop, L_length]; exact Nat.le_refl _), List.drop_one]
end Pl

theorem int_walk (s : ByteArray) (w : World) (hs : s.size ≤ 140737488351232) (hE : Mm.Errs w) :
    Calls Tryd.prog 66 #[.string s] w fun e w' => e = .returned (.tuple #[.int .i64 (Pl.rIv (Pl.L s)), .int .i64 (Pl.rIc (Pl.L s))]) ∧ Below w.heap.size w w' := by
  have HE := Pl.hid hE
  have HLen := Pl.hid (Pl.L_length s)
  clear hE
  rcases Nat.lt_or_ge 1 s.size with hsz | hsz
  · by_cases hc : (s[0]'(by omega)).toNat = 45
    · have hc' : (((s[0]'(by omega)).toNat : Int) == 45) = true := beq_iff_eq.2 (by omega)
      have HH : Hid ((Pl.L s).head? = some 45) := by
        show _ = _
        rw [Pl.head_L s (by omega)]
        congr 1
        exact UInt8.toNat_inj.1 hc
      clear hc
      by_cases h0 : Pl.L s = [45, 48]
      · have e0 := Pl.toL_eq h0
        have HX := Pl.hid (Pl.iW_same (l := Pl.L s) (fun h => h.2.2 h0))
        clear h0
        go_enter Tryd.func66, Tryd.ntmps66
        go_wp2_with fail
        refine (pint_walk _ _ hs HE.out).mono ?_
        rintro e w1 ⟨⟨v, ev, rfl, hv⟩, hb⟩
        have HV := Pl.hid hv
        have HB := Pl.hid hb
        clear hv hb
        cases hp : Pl.plainW (Pl.iW (Pl.L s)) with
        | false =>
          have HR := Pl.hid (Pl.rI_not hp)
          go_wp2_with fail
          refine (plain_walk _ _ hs).mono ?_
          rw [← HX.out, hp]
          rintro e w2 ⟨rfl, rfl⟩
          go_wp2_with fail
          go_ret2
          exact ⟨Pl.ret2ii HR.out.1 HR.out.2, HB.out⟩
        | true =>
          rcases HV.out with ⟨rfl, h⟩ | ⟨⟨tp, p, rfl⟩, h⟩
          · have HR := Pl.hid (Pl.rI_ok h hp)
            clear h HV
            go_wp2_with fail
            refine (plain_walk _ _ hs).mono ?_
            rw [← HX.out, hp]
            rintro e w2 ⟨rfl, rfl⟩
            go_wp2_with fail
            go_ret2
            exact ⟨Pl.ret2ii HR.out.1 HR.out.2, HB.out⟩
          · have HR := Pl.hid (Pl.rI_err h)
            clear h HV
            go_wp2_with fail
            refine (plain_walk _ _ hs).mono ?_
            rw [← HX.out, hp]
            rintro e w2 ⟨rfl, rfl⟩
            go_wp2_with fail
            go_ret2
            exact ⟨Pl.ret2ii HR.out.1 HR.out.2, HB.out⟩
      · have e0 := Pl.toL_ne h0
        have HX := Pl.hid (Pl.iW_tail hsz HH.out h0)
        have HZ : Hid ((s.extract 1 s.size).size ≤ 140737488351232) := by
          show _ ≤ _
          rw [ByteArray.size_extract]
          omega
        clear h0
        go_enter Tryd.func66, Tryd.ntmps66
        go_wp2_with fail
        refine (pint_walk _ _ hs HE.out).mono ?_
        rintro e w1 ⟨⟨v, ev, rfl, hv⟩, hb⟩
        have HV := Pl.hid hv
        have HB := Pl.hid hb
        clear hv hb
        cases hp : Pl.plainW (Pl.iW (Pl.L s)) with
        | false =>
          have HR := Pl.hid (Pl.rI_not hp)
          go_wp2_with fail
          refine (plain_walk _ _ HZ.out).mono ?_
          rw [HX.out, hp]
          rintro e w2 ⟨rfl, rfl⟩
          go_wp2_with fail
          go_ret2
          exact ⟨Pl.ret2ii HR.out.1 HR.out.2, HB.out⟩
        | true =>
          rcases HV.out with ⟨rfl, h⟩ | ⟨⟨tp, p, rfl⟩, h⟩
          · have HR := Pl.hid (Pl.rI_ok h hp)
            clear h HV
            go_wp2_with fail
            refine (plain_walk _ _ HZ.out).mono ?_
            rw [HX.out, hp]
            rintro e w2 ⟨rfl, rfl⟩
            go_wp2_with fail
            go_ret2
            exact ⟨Pl.ret2ii HR.out.1 HR.out.2, HB.out⟩
          · have HR := Pl.hid (Pl.rI_err h)
            clear h HV
            go_wp2_with fail
            refine (plain_walk _ _ HZ.out).mono ?_
            rw [HX.out, hp]
            rintro e w2 ⟨rfl, rfl⟩
            go_wp2_with fail
            go_ret2
            exact ⟨Pl.ret2ii HR.out.1 HR.out.2, HB.out⟩
    · have hc' : (((s[0]'(by omega)).toNat : Int) == 45) = false := beq_eq_false_iff_ne.2 (by omega)
      have HX := Pl.hid (Pl.iW_same (l := Pl.L s) (fun h => by
        have h2 := h.2.1
        rw [Pl.head_L s (by omega)] at h2
        injection h2 with h2
        exact hc (by rw [h2]; rfl)))
      clear hc
      go_enter Tryd.func66, Tryd.ntmps66
      go_wp2_with fail
      refine (pint_walk _ _ hs HE.out).mono ?_
      rintro e w1 ⟨⟨v, ev, rfl, hv⟩, hb⟩
      have HV := Pl.hid hv
      have HB := Pl.hid hb
      clear hv hb
      cases hp : Pl.plainW (Pl.iW (Pl.L s)) with
      | false =>
        have HR := Pl.hid (Pl.rI_not hp)
        go_wp2_with fail
        refine (plain_walk _ _ hs).mono ?_
        rw [← HX.out, hp]
        rintro e w2 ⟨rfl, rfl⟩
        go_wp2_with fail
        go_ret2
        exact ⟨Pl.ret2ii HR.out.1 HR.out.2, HB.out⟩
      | true =>
        rcases HV.out with ⟨rfl, h⟩ | ⟨⟨tp, p, rfl⟩, h⟩
        · have HR := Pl.hid (Pl.rI_ok h hp)
          clear h HV
          go_wp2_with fail
          refine (plain_walk _ _ hs).mono ?_
          rw [← HX.out, hp]
          rintro e w2 ⟨rfl, rfl⟩
          go_wp2_with fail
          go_ret2
          exact ⟨Pl.ret2ii HR.out.1 HR.out.2, HB.out⟩
        · have HR := Pl.hid (Pl.rI_err h)
          clear h HV
          go_wp2_with fail
          refine (plain_walk _ _ hs).mono ?_
          rw [← HX.out, hp]
          rintro e w2 ⟨rfl, rfl⟩
          go_wp2_with fail
          go_ret2
          exact ⟨Pl.ret2ii HR.out.1 HR.out.2, HB.out⟩
  · have HX := Pl.hid (Pl.iW_same (l := Pl.L s) (fun h => by have := h.1; rw [Pl.L_length] at this; omega))
    go_enter Tryd.func66, Tryd.ntmps66
    go_wp2_with fail
    refine (pint_walk _ _ hs HE.out).mono ?_
    rintro e w1 ⟨⟨v, ev, rfl, hv⟩, hb⟩
    have HV := Pl.hid hv
    have HB := Pl.hid hb
    clear hv hb
    cases hp : Pl.plainW (Pl.iW (Pl.L s)) with
    | false =>
      have HR := Pl.hid (Pl.rI_not hp)
      go_wp2_with fail
      refine (plain_walk _ _ hs).mono ?_
      rw [← HX.out, hp]
      rintro e w2 ⟨rfl, rfl⟩
      go_wp2_with fail
      go_ret2
      exact ⟨Pl.ret2ii HR.out.1 HR.out.2, HB.out⟩
    | true =>
      rcases HV.out with ⟨rfl, h⟩ | ⟨⟨tp, p, rfl⟩, h⟩
      · have HR := Pl.hid (Pl.rI_ok h hp)
        clear h HV
        go_wp2_with fail
        refine (plain_walk _ _ hs).mono ?_
        rw [← HX.out, hp]
        rintro e w2 ⟨rfl, rfl⟩
        go_wp2_with fail
        go_ret2
        exact ⟨Pl.ret2ii HR.out.1 HR.out.2, HB.out⟩
      · have HR := Pl.hid (Pl.rI_err h)
        clear h HV
        go_wp2_with fail
        refine (plain_walk _ _ hs).mono ?_
        rw [← HX.out, hp]
        rintro e w2 ⟨rfl, rfl⟩
        go_wp2_with fail
        go_ret2
        exact ⟨Pl.ret2ii HR.out.1 HR.out.2, HB.out⟩

end Go.Proofs.YtakldjdohgmeiaaDoor
