/- Contracts of digit.Text, digit.Int: how a number is written and read. Conditions: the table of powers and the two errors of the library stand as they were laid; texts within the form's reach. The parser of requests as a plain function on bytes, and what of it stands in memory. Conditions stand in each law. A parser's line and number: Go's line, number. Conditions stand in each law. A parser's number: Go's number. Conditions stand in the law. A parser's count and length: Go's count, length. Conditions stand in each law. Conditions stand in each law. -/
import Derived.Test.YtakldjdohgmeiaaDoorBuReplyMakes1
import Derived.Test.YtakldjdohgmeiaaDoorBuReplyMakes4
import Derived.Lib.AppendIntMem
import Derived.Lib.LaidTab
import Derived.Test.YtakldjdohgmeiaaDoorBuReplyMakes2
import Derived.Lib.IndexLaws
namespace Go.Proofs.YtakldjdohgmeiaaDoor
open Go.RowKit
set_option maxRecDepth 20000

namespace Mm
/-- what stands whatever is done at new blocks -/
def Stays (F : World → Prop) (w : World) : Prop := ∀ w', Below w.heap.size w w' → F w'
theorem Stays.on {F : World → Prop} {w w' : World} (h : Stays F w) (hb : Below w.heap.size w w') : Stays F w' := fun _ hb' => h _ (hb.trans (hb'.mono hb.size))
theorem Stays.here {F : World → Prop} {w : World} (h : Stays F w) : F w := h _ (Below.refl _ _)
theorem var_below {w w' : World} {n : String} {cs : Array Value} (hb : Below w.heap.size w w') (h : w.var? Tryd.prog n = some cs) : w'.var? Tryd.prog n = some cs := by
  unfold World.var? at *
  cases hg : Program.globalNamed Tryd.prog n with
  | none => simp [hg] at h
  | some g =>
    simp only [hg, Option.bind_some] at h ⊢
    have hlt : g < w.heap.size := by
      rcases Nat.lt_or_ge g w.heap.size with h' | h'
      · exact h'
      · rw [Array.getElem?_eq_none h'] at h; simp at h
    rw [hb.block g hlt]
    exact h
def Tab (w : World) : Prop := Stays (fun w => Lib.TabIs Tryd.prog w "internal/strconv.uint64pow10" .u64 Lib.pow10Tab) w
def Errs (w : World) : Prop := Stays (fun w => (∃ tp p, w.var? Tryd.prog "strconv.ErrSyntax" = some #[.iface tp p]) ∧ (∃ tp p, w.var? Tryd.prog "strconv.ErrRange" = some #[.iface tp p])) w
theorem tab_of {w : World} (h : Lib.TabIs Tryd.prog w "internal/strconv.uint64pow10" .u64 Lib.pow10Tab) : Tab w := fun _ hb => Lib.tabBelow_of_tabIs h _ hb
theorem errs_of {w : World} (h1 : ∃ tp p, w.var? Tryd.prog "strconv.ErrSyntax" = some #[.iface tp p]) (h2 : ∃ tp p, w.var? Tryd.prog "strconv.ErrRange" = some #[.iface tp p]) : Errs w := fun w' hb => by
  obtain ⟨t1, p1, h1⟩ := h1
  obtain ⟨t2, p2, h2⟩ := h2
  exact ⟨⟨t1, p1, var_below hb h1⟩, ⟨t2, p2, var_below hb h2⟩⟩
theorem below_grow (w : World) (k : Nat) (os : Array Obj) : Below w.heap.size w (Sort.grow (w.drewN k) os) := Lib.below_grow _ w (Nat.le_refl _) k os
end Mm

theorem text_walk (n : Int) (w : World) (hn : Pl.In64 n) (hT : Mm.Tab w) :
    Calls Tryd.prog 61 #[.int .i64 n] w fun e w' => e = .returned (.string (Pl.B (Lib.itoa n))) ∧ Below w.heap.size w w' := by
  have HT := Pl.hid hT
  have HN := Pl.hid hn
  clear hT hn
  go_enter Tryd.func61, Tryd.ntmps61
  go_wp2_with fail
  refine (Tryd.strconv_FormatInt_10 n HN.out.1 HN.out.2 _ HT.out.here).mono ?_
  rintro e w1 ⟨rfl, k, os, rfl⟩
  have H := Pl.hid (Mm.below_grow w k os)
  go_wp2_with fail
  go_ret
  exact ⟨rfl, H.out⟩

/-! how the library's two readers end -/
theorem pint_walk (s : ByteArray) (w : World) (hs : s.size ≤ 140737488351232) (hE : Mm.Errs w) :
    Calls Tryd.prog 85 #[.string s, .int .i64 10, .int .i64 64] w fun e w' => (∃ v ev, e = .returned (.tuple #[.int .i64 v, ev]) ∧ (ev = .nilIface ∧ Lib.parseIntB 64 (Pl.L s) = .ok v ∨ (∃ tp p, ev = .iface tp (.pointer (some p))) ∧ ∀ u, Lib.parseIntB 64 (Pl.L s) ≠ .ok u)) ∧ Below w.heap.size w w' := by
  obtain ⟨⟨t1, p1, h1⟩, ⟨t2, p2, h2⟩⟩ := hE.here
  rcases h : Lib.parseIntB 64 s.data.toList with v | _ | _
  · skip
    refine (Tryd.strconv_ParseInt_10_at64_ok s (by omega) v h w).mono ?_
    rintro e w1 ⟨rfl, hw⟩
    refine ⟨⟨v, _, rfl, .inl ⟨rfl, h⟩⟩, ?_⟩
    rcases hw with rfl | ⟨t, rfl⟩
    · exact Below.refl _ _
    · exact Lib.bytesWorld_below _ _ _
  · refine (Tryd.strconv_ParseInt_10_at64_syntax_var s (by omega) h t1 p1 w h1).mono ?_
    rintro e w1 ⟨N, rfl, _, _, hb⟩
    exact ⟨⟨_, _, rfl, .inr ⟨⟨_, _, rfl⟩, fun u e => by unfold Pl.L at e; rw [h] at e; cases e⟩⟩, hb⟩
  · refine (Tryd.strconv_ParseInt_10_at64_range_var s (by omega) h t2 p2 w h2).mono ?_
    rintro e w1 ⟨N, rfl, _, _, hb⟩
    exact ⟨⟨_, _, rfl, .inr ⟨⟨_, _, rfl⟩, fun u e => by unfold Pl.L at e; rw [h] at e; cases e⟩⟩, hb⟩
namespace Pl
theorem rI_ok {l : List UInt8} {v : Int} (h : Lib.parseIntB 64 l = .ok v) (hp : plainW (iW l) = true) : v = rIv l ∧ 0 = rIc l := by
  have e := cI_eq l
  unfold cI at e
  rw [h] at e
  simp only [hp, if_true] at e
  unfold rIv rIc
  rw [← e]
  exact ⟨rfl, rfl⟩
theorem rI_none {l : List UInt8} (h : rI l = none) : 0 = rIv l ∧ 10 = rIc l := by
  unfold rIv rIc
  rw [h]
  exact ⟨rfl, rfl⟩
theorem rI_err {l : List UInt8} (h : ∀ u, Lib.parseIntB 64 l ≠ .ok u) : 0 = rIv l ∧ 10 = rIc l := by
  apply rI_none
  rw [← cI_eq]
  unfold cI
  rcases e : Lib.parseIntB 64 l with v | _ | _
  · exact absurd e (h v)
  · rfl
  · rfl
theorem rI_not {l : List UInt8} (h : plainW (iW l) = false) : 0 = rIv l ∧ 10 = rIc l := by
  apply rI_none
  rw [← cI_eq]
  unfold cI
  rw [h]
  cases e : Lib.parseIntB 64 l <;> rfl
theorem rU_ok {l : List UInt8} {v : Nat} (h : Lib.parseUintB 64 l = .ok v) (hp : plainW l = true) : (v : Int) = rUv l ∧ 0 = rUc l := by
  have e := cU_eq l
  unfold cU at e
  rw [h] at e
  simp only [hp, if_true] at e
  unfold rUv rUc
  rw [← e]
  exact ⟨rfl, rfl⟩
theorem rU_none {l : List UInt8} (h : rU l = none) : 0 = rUv l ∧ 10 = rUc l := by
  unfold rUv rUc
  rw [h]
  exact ⟨rfl, rfl⟩
theorem rU_err {l : List UInt8} (h : ∀ u, Lib.parseUintB 64 l ≠ .ok u) : 0 = rUv l ∧ 10 = rUc l := by
  apply rU_none
  rw [← cU_eq]
  unfold cU
  rcases e : Lib.parseUintB 64 l with v | _ | _
  · exact absurd e (h v)
  · rfl
  · rfl
theorem rU_not {l : List UInt8} (h : plainW l = false) : 0 = rUv l ∧ 10 = rUc l := by
  apply rU_none
  rw [← cU_eq]
  unfold cU
  rw [h]
  cases e : Lib.parseUintB 64 l <;> rfl
theorem iW_same {l : List UInt8} (h : ¬ (1 < l.length ∧ l.head? = some 45 ∧ l ≠ [45, 48])) : iW l = l := if_neg h
theorem iW_tail {s : ByteArray} (h1 : 1 < s.size) (h2 : (L s).head? = some 45) (h3 : L s ≠ [45, 48]) : L (s.extract 1 s.size) = iW (L s) := by
  rw [show iW (L s) = (L s).tail from if_pos ⟨by rw [L_length]; exact h1, h2, h3⟩, extract_B, L_B]
  unfold slc
  rw [List.take_of_length_le (by rw [List.length_drop, L_length]; exact Nat.le_refl _), List.drop_one]
end Pl

theorem int_walk (s : ByteArray) (w : World) (hs : s.size ≤ 140737488351232) (hE : Mm.Errs w) :
    Calls Tryd.prog 66 #[.string s] w fun e w' => e = .returned (.tuple #[.int .i64 (Pl.rIv (Pl.L s)), .int .i64 (Pl.rIc (Pl.L s))]) ∧ Below w.heap.size w w' := by
  have HE := Pl.hid hE
  have HLen := Pl.hid (Pl.L_length s)
  clear hE
  rcases Nat.lt_or_ge 1 s.size with hsz | hsz
  · by_cases hc : (s[0]'(by omega)).toNat = 45
    · have hc' : (((s[0]'(by omega)).toNat : Int) == 45) = true := beq_iff_eq.2 (by omega)
      have HH : Hid ((Pl.L s).head? = some 45) := by
        show _ = _
        rw [Pl.head_L s (by omega)]
        congr 1
        exact UInt8.toNat_inj.1 hc
      clear hc
      by_cases h0 : Pl.L s = [45, 48]
      · have e0 := Pl.toL_eq h0
        have HX := Pl.hid (Pl.iW_same (l := Pl.L s) (fun h => h.2.2 h0))
        clear h0
        go_enter Tryd.func66, Tryd.ntmps66
        go_wp2_with fail
        refine (pint_walk _ _ hs HE.out).mono ?_
        rintro e w1 ⟨⟨v, ev, rfl, hv⟩, hb⟩
        have HV := Pl.hid hv
        have HB := Pl.hid hb
        clear hv hb
        cases hp : Pl.plainW (Pl.iW (Pl.L s)) with
        | false =>
          have HR := Pl.hid (Pl.rI_not hp)
          go_wp2_with fail
          refine (plain_walk _ _ hs).mono ?_
          rw [← HX.out, hp]
          rintro e w2 ⟨rfl, rfl⟩
          go_wp2_with fail
          go_ret2
          exact ⟨Pl.ret2ii HR.out.1 HR.out.2, HB.out⟩
        | true =>
          rcases HV.out with ⟨rfl, h⟩ | ⟨⟨tp, p, rfl⟩, h⟩
          · have HR := Pl.hid (Pl.rI_ok h hp)
            clear h HV
            go_wp2_with fail
            refine (plain_walk _ _ hs).mono ?_
            rw [← HX.out, hp]
            rintro e w2 ⟨rfl, rfl⟩
            go_wp2_with fail
            go_ret2
            exact ⟨Pl.ret2ii HR.out.1 HR.out.2, HB.out⟩
          · have HR := Pl.hid (Pl.rI_err h)
            clear h HV
            go_wp2_with fail
            refine (plain_walk _ _ hs).mono ?_
            rw [← HX.out, hp]
            rintro e w2 ⟨rfl, rfl⟩
            go_wp2_with fail
            go_ret2
            exact ⟨Pl.ret2ii HR.out.1 HR.out.2, HB.out⟩
      · have e0 := Pl.toL_ne h0
        have HX := Pl.hid (Pl.iW_tail hsz HH.out h0)
        have HZ : Hid ((s.extract 1 s.size).size ≤ 140737488351232) := by
          show _ ≤ _
          rw [ByteArray.size_extract]
          omega
        clear h0
        go_enter Tryd.func66, Tryd.ntmps66
        go_wp2_with fail
        refine (pint_walk _ _ hs HE.out).mono ?_
        rintro e w1 ⟨⟨v, ev, rfl, hv⟩, hb⟩
        have HV := Pl.hid hv
        have HB := Pl.hid hb
        clear hv hb
        cases hp : Pl.plainW (Pl.iW (Pl.L s)) with
        | false =>
          have HR := Pl.hid (Pl.rI_not hp)
          go_wp2_with fail
          refine (plain_walk _ _ HZ.out).mono ?_
          rw [HX.out, hp]
          rintro e w2 ⟨rfl, rfl⟩
          go_wp2_with fail
          go_ret2
          exact ⟨Pl.ret2ii HR.out.1 HR.out.2, HB.out⟩
        | true =>
          rcases HV.out with ⟨rfl, h⟩ | ⟨⟨tp, p, rfl⟩, h⟩
          · have HR := Pl.hid (Pl.rI_ok h hp)
            clear h HV
            go_wp2_with fail
            refine (plain_walk _ _ HZ.out).mono ?_
            rw [HX.out, hp]
            rintro e w2 ⟨rfl, rfl⟩
            go_wp2_with fail
            go_ret2
            exact ⟨Pl.ret2ii HR.out.1 HR.out.2, HB.out⟩
          · have HR := Pl.hid (Pl.rI_err h)
            clear h HV
            go_wp2_with fail
            refine (plain_walk _ _ HZ.out).mono ?_
            rw [HX.out, hp]
            rintro e w2 ⟨rfl, rfl⟩
            go_wp2_with fail
            go_ret2
            exact ⟨Pl.ret2ii HR.out.1 HR.out.2, HB.out⟩
    · have hc' : (((s[0]'(by omega)).toNat : Int) == 45) = false := beq_eq_false_iff_ne.2 (by omega)
      have HX := Pl.hid (Pl.iW_same (l := Pl.L s) (fun h => by
        have h2 := h.2.1
        rw [Pl.head_L s (by omega)] at h2
        injection h2 with h2
        exact hc (by rw [h2]; rfl)))
      clear hc
      go_enter Tryd.func66, Tryd.ntmps66
      go_wp2_with fail
      refine (pint_walk _ _ hs HE.out).mono ?_
      rintro e w1 ⟨⟨v, ev, rfl, hv⟩, hb⟩
      have HV := Pl.hid hv
      have HB := Pl.hid hb
      clear hv hb
      cases hp : Pl.plainW (Pl.iW (Pl.L s)) with
      | false =>
        have HR := Pl.hid (Pl.rI_not hp)
        go_wp2_with fail
        refine (plain_walk _ _ hs).mono ?_
        rw [← HX.out, hp]
        rintro e w2 ⟨rfl, rfl⟩
        go_wp2_with fail
        go_ret2
        exact ⟨Pl.ret2ii HR.out.1 HR.out.2, HB.out⟩
      | true =>
        rcases HV.out with ⟨rfl, h⟩ | ⟨⟨tp, p, rfl⟩, h⟩
        · have HR := Pl.hid (Pl.rI_ok h hp)
          clear h HV
          go_wp2_with fail
          refine (plain_walk _ _ hs).mono ?_
          rw [← HX.out, hp]
          rintro e w2 ⟨rfl, rfl⟩
          go_wp2_with fail
          go_ret2
          exact ⟨Pl.ret2ii HR.out.1 HR.out.2, HB.out⟩
        · have HR := Pl.hid (Pl.rI_err h)
          clear h HV
          go_wp2_with fail
          refine (plain_walk _ _ hs).mono ?_
          rw [← HX.out, hp]
          rintro e w2 ⟨rfl, rfl⟩
          go_wp2_with fail
          go_ret2
          exact ⟨Pl.ret2ii HR.out.1 HR.out.2, HB.out⟩
  · have HX := Pl.hid (Pl.iW_same (l := Pl.L s) (fun h => by have := h.1; rw [Pl.L_length] at this; omega))
    go_enter Tryd.func66, Tryd.ntmps66
    go_wp2_with fail
    refine (pint_walk _ _ hs HE.out).mono ?_
    rintro e w1 ⟨⟨v, ev, rfl, hv⟩, hb⟩
    have HV := Pl.hid hv
    have HB := Pl.hid hb
    clear hv hb
    cases hp : Pl.plainW (Pl.iW (Pl.L s)) with
    | false =>
      have HR := Pl.hid (Pl.rI_not hp)
      go_wp2_with fail
      refine (plain_walk _ _ hs).mono ?_
      rw [← HX.out, hp]
      rintro e w2 ⟨rfl, rfl⟩
      go_wp2_with fail
      go_ret2
      exact ⟨Pl.ret2ii HR.out.1 HR.out.2, HB.out⟩
    | true =>
      rcases HV.out with ⟨rfl, h⟩ | ⟨⟨tp, p, rfl⟩, h⟩
      · have HR := Pl.hid (Pl.rI_ok h hp)
        clear h HV
        go_wp2_with fail
        refine (plain_walk _ _ hs).mono ?_
        rw [← HX.out, hp]
        rintro e w2 ⟨rfl, rfl⟩
        go_wp2_with fail
        go_ret2
        exact ⟨Pl.ret2ii HR.out.1 HR.out.2, HB.out⟩
      · have HR := Pl.hid (Pl.rI_err h)
        clear h HV
        go_wp2_with fail
        refine (plain_walk _ _ hs).mono ?_
        rw [← HX.out, hp]
        rintro e w2 ⟨rfl, rfl⟩
        go_wp2_with fail
        go_ret2
        exact ⟨Pl.ret2ii HR.out.1 HR.out.2, HB.out⟩

end Go.Proofs.YtakldjdohgmeiaaDoor

namespace Go.Proofs.YtakldjdohgmeiaaDoor
open Go.RowKit
set_option maxRecDepth 20000

namespace Pl
structure Pst where
  used : Nat
  words : List (List UInt8)
  left : Nat
  size : Nat
  need : Int
  ready : List (List (List UInt8))
  err : Bool
deriving DecidableEq
def fresh : Pst := ⟨0, [], 0, 0, -1, [], false⟩
def ixM (l : List UInt8) (m : Nat) : Int := Lib.indexByte (l.take (m + 1)) 10
def lineM (l : List UInt8) (m : Nat) : Option (List UInt8) := if ixM l m = -1 then none else some (l.take (ixM l m).toNat)
/-- does a line end by a CR? -/
def crB (t : List UInt8) : Bool := decide (t.getLast? = some 13)
def cutM (t : List UInt8) : List UInt8 := if crB t = true then t.dropLast else t
def numOk (t : List UInt8) (lo hi : Int) : Bool := crB t && decide (2 ≤ t.length) && decide (rIc t.dropLast.tail = 0) && decide (lo ≤ rIv t.dropLast.tail) && decide (rIv t.dropLast.tail ≤ hi)
/-- the number of a header line and its length; or whether that is an error -/
def numM (l : List UInt8) (lo hi : Int) : Option (Int × Nat) × Bool :=
  match lineM l 32 with
  | none => (none, decide (32 < l.length))
  | some t => if numOk t lo hi = true then (some (rIv t.dropLast.tail, t.length + 1), false) else (none, true)
def countM (st : Pst) (l : List UInt8) : Nat × Pst :=
  match numM l (-1) 1024 with
  | (none, e) => (0, { st with err := e })
  | (some (n, k), _) => (k, if 0 < n then { st with left := n.toNat, size := 0, words := [], used := k } else st)
def lengthM (st : Pst) (l : List UInt8) : Nat × Pst :=
  if l.head? ≠ some 36 then (0, { st with err := true }) else
  match numM l 0 1048576 with
  | (none, e) => (0, { st with err := e })
  | (some (n, k), _) => if 4194304 < st.size + n.toNat then (0, { st with size := st.size + n.toNat, err := true }) else (k, { st with size := st.size + n.toNat, need := n, used := st.used + k })
def wordM (st : Pst) (l : List UInt8) : Nat × Pst :=
  if st.need.toNat < l.length ∧ l[st.need.toNat]? ≠ some 13 ∨ st.need.toNat + 1 < l.length ∧ l[st.need.toNat + 1]? ≠ some 10 then (0, { st with err := true })
  else if l.length < st.need.toNat + 2 then (0, st)
  else (st.need.toNat + 2,
    if st.left = 1 then { st with used := 0, words := [], left := 0, need := -1, ready := st.ready ++ [st.words ++ [l.take st.need.toNat]] }
    else { st with words := st.words ++ [l.take st.need.toNat], need := -1, left := st.left - 1, used := st.used + (st.need.toNat + 2) })
def inlineM (st : Pst) (l : List UInt8) : Nat × Pst :=
  match lineM l 4096 with
  | none => (0, { st with err := decide (4096 < l.length) })
  | some t => match inl 4098 (cutM t) [] with
    | (0, ws) => (t.length + 1, if ws = [] then st else { st with ready := st.ready ++ [ws] })
    | _ => (0, { st with err := true })
def partM (st : Pst) (l : List UInt8) : Nat × Pst :=
  if l = [] then (0, st) else if 0 ≤ st.need then wordM st l else if 0 < st.left then lengthM st l else if l.head? = some 42 then countM st l else inlineM st l
/-- the parts that bytes have, one behind the other -/
def feedM : Nat → Pst → List UInt8 → Pst × List UInt8
  | 0, st, l => (st, l)
  | f + 1, st, l => if st.err = true then (st, l) else if (partM st l).1 = 0 then ((partM st l).2, l) else feedM f (partM st l).2 (l.drop (partM st l).1)
/-- a state that may be -/
def okS (st : Pst) : Prop := st.size ≤ 5242880 ∧ -1 ≤ st.need ∧ st.need ≤ 1048576 ∧ st.left ≤ 1024 ∧ (0 ≤ st.need → 0 < st.left)
theorem ixM_lt {l : List UInt8} {m : Nat} (h : ixM l m ≠ -1) : 0 ≤ ixM l m ∧ (ixM l m).toNat < l.length ∧ (ixM l m).toNat ≤ m ∧ l[(ixM l m).toNat]? = some 10 := by
  have hge := Lib.indexByte_ge (l.take (m + 1)) 10
  have h0 : 0 ≤ ixM l m := by unfold ixM at *; omega
  have h1 := (Lib.indexByte_some (l := l.take (m + 1)) (c := 10) (o := (ixM l m).toNat) (by unfold ixM at *; omega)).1
  have h2 := (List.getElem?_eq_some_iff.1 h1).1
  rw [List.length_take] at h2
  refine ⟨h0, by omega, by omega, ?_⟩
  rw [List.getElem?_take] at h1
  split at h1
  · exact h1
  · cases h1
theorem lineM_some {l t : List UInt8} {m : Nat} (h : lineM l m = some t) : ixM l m ≠ -1 ∧ ixM l m = t.length ∧ t = l.take t.length ∧ t.length < l.length ∧ t.length ≤ m := by
  unfold lineM at h
  split at h
  · cases h
  · rename_i h0
    injection h with h
    obtain ⟨h1, h2, h3, _⟩ := ixM_lt h0
    have hl : t.length = (ixM l m).toNat := by rw [← h, List.length_take]; omega
    exact ⟨h0, by omega, by rw [hl, h], by omega, by omega⟩
theorem lineM_none {l : List UInt8} {m : Nat} (h : lineM l m = none) : ixM l m = -1 := by
  unfold lineM at h
  split at h
  · assumption
  · cases h
end Pl

namespace Mm
open Pl
def noA (a b : Value) : Prop := ∀ g, a.ownBlock = some g → b.ownBlock = some g → False
def ErrV (e : Bool) (v : Value) : Prop := (e = true ∧ ∃ T x, v = .iface T x) ∨ (e = false ∧ v = .nilIface)
/-- rows of texts, one behind the other -/
def Rdy (w : World) (b : Nat) (rows : List Value) (ready : List (List (List UInt8))) : Prop := rows.length = ready.length ∧ ∀ (i : Nat) (l : List (List UInt8)), ready[i]? = some l → ∃ v, rows[i]? = some v ∧ OwnS w b v l
def cellsP (bv wv rv ev : Value) (st : Pst) : Array Value := #[bv, .int .i64 (st.used : Int), wv, .int .i64 (st.left : Int), .int .i64 (st.size : Int), .int .i64 st.need, rv, ev]
def foot (p : Nat) (wv rv : Value) (rows : List Value) (g : Nat) : Prop := g = p ∨ wv.ownBlock = some g ∨ rv.ownBlock = some g ∨ ∃ v ∈ rows, v.ownBlock = some g
/-- the parser at block p, of which the bytes' field is bv -/
def PV (w : World) (p : Nat) (bv : Value) (st : Pst) (wv rv ev : Value) (rows : List Value) : Prop :=
  w.heap[p]? = some (.cells (cellsP bv wv rv ev st) 90 (0, 0)) ∧ OwnS w (p + 1) wv st.words ∧ w.ownsRow (p + 1) 22 1 rv rows.length rows ∧ Rdy w (p + 1) rows st.ready ∧
  noA wv rv ∧ (∀ v ∈ rows, noA v wv ∧ noA v rv) ∧ ErrV st.err ev
def PQ (w : World) (p : Nat) (bv : Value) (st : Pst) (F : Nat → Prop) : Prop := ∃ wv rv ev rows, PV w p bv st wv rv ev rows ∧ F = foot p wv rv rows
/-- what a call of the parser changes -/
structure Chg (w : World) (F : Nat → Prop) (w' : World) (F' : Nat → Prop) : Prop where
  os : w'.os = w.os
  tape : w'.tape = w.tape
  output : w'.output = w.output
  size : w.heap.size ≤ w'.heap.size
  block : ∀ g, g < w.heap.size → ¬ F g → w'.heap[g]? = w.heap[g]?
  foot : ∀ g, F' g → F g ∨ w.heap.size ≤ g
theorem Chg.refl (w : World) (F : Nat → Prop) : Chg w F w F := ⟨rfl, rfl, rfl, Nat.le_refl _, fun _ _ _ => rfl, fun _ h => .inl h⟩
theorem Chg.trans {a b c : World} {F G H : Nat → Prop} (h : Chg a F b G) (k : Chg b G c H) : Chg a F c H :=
  ⟨k.os.trans h.os, k.tape.trans h.tape, k.output.trans h.output, Nat.le_trans h.size k.size, fun g hg hf => (k.block g (Nat.lt_of_lt_of_le hg h.size) (fun hG => by rcases h.foot g hG with h1 | h1; exact hf h1; omega)).trans (h.block g hg hf),
   fun g hg => by
    rcases k.foot g hg with h1 | h1
    · exact h.foot g h1
    · exact .inr (Nat.le_trans h.size h1)⟩
theorem Chg.grown {w w' : World} {F F' : Nat → Prop} {r : Option Nat} (h : w.grownBy w' r) (hr : ∀ g, r = some g → F g) (hF : ∀ g, F' g → F g ∨ w.heap.size ≤ g) : Chg w F w' F' :=
  ⟨h.os, h.tape, h.output, h.size, fun g hg hf => h.block g hg (fun e => hf (hr g e.symm)), hF⟩
theorem Chg.below {w w' : World} {F : Nat → Prop} (h : Below w.heap.size w w') : Chg w F w' F := ⟨h.os, h.tape, h.output, h.size, fun g hg _ => h.block g hg, fun _ h => .inl h⟩
theorem Chg.under {W w w' : World} {F F' : Nat → Prop} (h : Chg w F w' F') (hW : Below W.heap.size W w) (hF : ∀ g, F g → W.heap.size ≤ g) : Below W.heap.size W w' :=
  ⟨h.os.trans hW.os, h.tape.trans hW.tape, h.output.trans hW.output, Nat.le_trans hW.size h.size, fun g hg => (h.block g (Nat.lt_of_lt_of_le hg hW.size) (fun hf => by have := hF g hf; omega)).trans (hW.block g hg)⟩
theorem PV.lt {w : World} {p : Nat} {bv wv rv ev : Value} {st : Pst} {rows : List Value} (h : PV w p bv st wv rv ev rows) : p < w.heap.size := (Array.getElem?_eq_some_iff.1 h.1).1
theorem PV.cell {w : World} {p : Nat} {bv wv rv ev : Value} {st : Pst} {rows : List Value} (h : PV w p bv st wv rv ev rows) (i : Nat) (v : Value) (hv : (cellsP bv wv rv ev st)[i]? = some v) : w.cell? ⟨p, i, none⟩ = some v := by
  rw [cell_of_row w p i _ _ _ h.1]
  exact hv
theorem Rdy.keep {w w' : World} {b : Nat} {rows : List Value} {ready : List (List (List UInt8))} (h : Rdy w b rows ready) (hb : ∀ v ∈ rows, ∀ g, v.ownBlock = some g → w'.heap[g]? = w.heap[g]?) : Rdy w' b rows ready :=
  ⟨h.1, fun i l hl => by
    obtain ⟨v, h1, h2⟩ := h.2 i l hl
    exact ⟨v, h1, h2.keep (hb v (List.mem_of_getElem? h1))⟩⟩
theorem ownsRow_keep {w w' : World} {b : Nat} {t : TypeId} {k : Nat} {v : Value} {n : Nat} {cs : List Value} (h : w.ownsRow b t k v n cs) (hb : ∀ g, v.ownBlock = some g → w'.heap[g]? = w.heap[g]?) : w'.ownsRow b t k v n cs := by
  obtain ⟨hl, h0 | ⟨g, cap, cur, hv, hg, hh, r⟩⟩ := h
  · exact ⟨hl, .inl h0⟩
  · exact ⟨hl, .inr ⟨g, cap, cur, hv, hg, by rw [hb g (by rw [hv]; rfl)]; exact hh, r⟩⟩
theorem Rdy.row {w : World} {b : Nat} {rows : List Value} {ready : List (List (List UInt8))} (h : Rdy w b rows ready) {v : Value} (hv : v ∈ rows) : ∃ l, OwnS w b v l := by
  obtain ⟨i, hi, e⟩ := List.mem_iff_getElem.1 hv
  have h1 : i < ready.length := by rw [← h.1]; exact hi
  obtain ⟨v', h2, h3⟩ := h.2 i _ (List.getElem?_eq_getElem h1)
  rw [List.getElem?_eq_getElem hi] at h2
  injection h2 with h2
  exact ⟨_, by rw [← e, h2]; exact h3⟩
/-- a call that leaves all that is there -/
theorem PV.below {w w' : World} {p : Nat} {bv wv rv ev : Value} {st : Pst} {rows : List Value} (h : PV w p bv st wv rv ev rows) (hb : Below w.heap.size w w') : PV w' p bv st wv rv ev rows :=
  ⟨(hb.block p h.lt).trans h.1, h.2.1.below hb, ownsRow_keep h.2.2.1 (fun g hg => hb.block g (h.2.2.1.lt g hg).2), h.2.2.2.1.keep (fun v hv g hg => by
    obtain ⟨l, ho⟩ := h.2.2.2.1.row hv
    exact hb.block g (ho.lt g hg).2), h.2.2.2.2⟩
/-- a store to the parser's own block -/
theorem PV.store {w w' : World} {p : Nat} {bv wv rv ev bv' ev' : Value} {st st' : Pst} {rows : List Value} (h : PV w p bv st wv rv ev rows) (hg : w.grownBy w' (some p)) (hp : w'.heap[p]? = some (.cells (cellsP bv' wv rv ev' st') 90 (0, 0)))
    (h1 : st'.words = st.words) (h2 : st'.ready = st.ready) (h3 : ErrV st'.err ev') : PV w' p bv' st' wv rv ev' rows := by
  have hne : ∀ g, p + 1 ≤ g → ¬ some g = some p := fun g hg e => by injection e with e; omega
  refine ⟨hp, ?_, ownsRow_keep h.2.2.1 (fun g hg' => hg.block g (h.2.2.1.lt g hg').2 (hne g (h.2.2.1.lt g hg').1)), ?_, h.2.2.2.2.1, h.2.2.2.2.2.1, h3⟩
  · rw [h1]
    exact h.2.1.keep (fun g hg' => hg.block g (h.2.1.lt g hg').2 (hne g (h.2.1.lt g hg').1))
  · rw [h2]
    exact h.2.2.2.1.keep (fun v hv g hg' => by
      obtain ⟨l, ho⟩ := h.2.2.2.1.row hv
      exact hg.block g (ho.lt g hg').2 (hne g (ho.lt g hg').1))
/-- bytes of a stretch of memory that may be empty -/
def Rest (w : World) (v : Value) (l : List UInt8) : Prop := ∃ a c, v = .slice a l.length c ∧ l.length ≤ c ∧ (0 < l.length → ∃ g o, a = some ⟨g, o, none⟩ ∧ BytesAt w g o l)
end Mm
end Go.Proofs.YtakldjdohgmeiaaDoor

namespace Go.Proofs.YtakldjdohgmeiaaDoor
open Go.RowKit
set_option maxRecDepth 20000

namespace Pl
def natL (l : List UInt8) : List Int := l.map fun c => (c.toNat : Int)
theorem natL_length (l : List UInt8) : (natL l).length = l.length := by simp [natL]
theorem bytesOf_natL (l : List UInt8) : Lib.bytesOf (natL l) = l := by
  unfold Lib.bytesOf natL
  rw [List.map_map]
  conv => rhs; rw [← List.map_id l]
  refine List.map_congr_left fun c _ => ?_
  simp
theorem natL_getD (l : List UInt8) (i : Nat) (h : i < l.length) : (natL l).getD i 0 = at_ l i := by
  unfold natL at_
  rw [List.getD_eq_getElem?_getD, List.getD_eq_getElem?_getD, List.getElem?_map, List.getElem?_eq_getElem h]
  rfl
theorem at_take (l : List UInt8) (k i : Nat) (h : i < k) : at_ (l.take k) i = at_ l i := by
  unfold at_
  rw [List.getD_eq_getElem?_getD, List.getD_eq_getElem?_getD, List.getElem?_take, if_pos h]
theorem at_drop (l : List UInt8) (k i : Nat) : at_ (l.drop k) i = at_ l (k + i) := by
  unfold at_
  rw [List.getD_eq_getElem?_getD, List.getD_eq_getElem?_getD, List.getElem?_drop]
end Pl

namespace Mm
open Pl
theorem BytesAt.take {w : World} {g o : Nat} {l : List UInt8} (h : BytesAt w g o l) (k : Nat) : BytesAt w g o (l.take k) := fun j hj => by
  rw [List.length_take] at hj
  rw [at_take _ _ _ (by omega)]
  exact h j (by omega)
theorem BytesAt.drop {w : World} {g o : Nat} {l : List UInt8} (h : BytesAt w g o l) (k : Nat) : BytesAt w g (o + k) (l.drop k) := fun j hj => by
  rw [List.length_drop] at hj
  rw [at_drop, Nat.add_assoc]
  exact h (k + j) (by omega)
theorem BytesAt.nums {w : World} {g o : Nat} {l : List UInt8} (h : BytesAt w g o l) : ∀ i, i < l.length → w.cell? ⟨g, o + i, none⟩ = some (.int .u8 ((natL l).getD i 0)) := fun i hi => by
  rw [natL_getD l i hi]
  exact h i hi
theorem BytesAt.byteIn {w : World} {g o : Nat} {l : List UInt8} {a : Option Addr} (h : 0 < l.length → a = some ⟨g, o, none⟩ ∧ BytesAt w g o l) : Lib.BytesIn w a l.length (natL l) := fun h0 => ⟨g, o, (h h0).1, (h h0).2.nums⟩
/-- the six errors stand as they were laid -/
def RErr (w : World) : Prop := Stays (fun w => ∀ g, g = 1 ∨ g = 5 ∨ g = 4 ∨ g = 3 ∨ g = 2 ∨ g = 0 → ∃ T x, w.cell? ⟨g, 0, none⟩ = some (.iface T x)) w
end Mm

set_option maxHeartbeats 4000000 in
theorem line_some (pv : Value) (g o c m : Nat) (M : Int) (hM : M = (m : Int)) (l t : List UInt8) (w : World) (hl : l.length ≤ 140737488351232) (hc : l.length ≤ c) (h0 : 0 < l.length) (hm : m ≤ 4096) (h : Mm.BytesAt w g o l) (ht : Pl.lineM l m = some t) :
    Calls Tryd.prog 88 #[pv, .slice (some ⟨g, o, none⟩) l.length c, .int .i64 M] w fun e w' => e = .returned (.tuple #[.slice (some ⟨g, o, none⟩) t.length t.length, .bool true]) ∧ w = w' := by
  subst hM
  obtain ⟨_, h1, _, h3, h4⟩ := Pl.lineM_some ht
  have HM := Pl.hid h
  have HX : Hid (Lib.indexByte (Lib.bytesOf (Pl.natL (l.take (m + 1)))) (10 : Int).toNat.toUInt8 = (t.length : Int)) := by
    show _ = _
    rw [Pl.bytesOf_natL]
    exact h1
  have HN := Pl.hid ((HM.out.take (m + 1)).nums)
  have hcz : ¬ c = 0 := by omega
  have htc : t.length ≤ c := by omega
  clear h ht h1 h3 h4
  generalize t.length = k at htc HX ⊢
  go_enter Tryd.func88, Tryd.ntmps88
  go_wp2_with fail
  have hk : (min (l.length : Int) ((m : Int) + 1)).toNat = (l.take (m + 1)).length := by rw [List.length_take]; omega
  rw [hk]
  refine (Tryd.bytes_IndexByte g o _ c (Pl.natL (l.take (m + 1))) 10 w (Pl.natL_length _) HN.out).mono ?_
  rw [HX.out]
  rintro e w1 ⟨rfl, rfl⟩
  clear hk hm hc h0 hl HX HN HM
  have hneg : decide ((k : Int) < 0) = false := decide_eq_false (by omega)
  go_wp2_with fail
  go_ret2
  exact ⟨rfl, rfl⟩

set_option maxHeartbeats 4000000 in
theorem line_none (p g o c m : Nat) (M : Int) (hM : M = (m : Int)) (l : List UInt8) (bv : Value) (st : Pl.Pst) (F : Nat → Prop) (W w : World) (hE : Mm.RErr W) (hW : Below W.heap.size W w) (hl : l.length ≤ 140737488351232) (hc : l.length ≤ c) (hm : m ≤ 4096) (h : Mm.BytesAt w g o l) (ht : Pl.lineM l m = none)
    (hp : Mm.PQ w p bv st F) (he : st.err = false) :
    Calls Tryd.prog 88 #[.pointer (some ⟨p, 0, none⟩), .slice (some ⟨g, o, none⟩) l.length c, .int .i64 M] w fun e w' => e = .returned (.tuple #[.slice none 0 0, .bool false]) ∧ Mm.PQ w' p bv { st with err := decide (m < l.length) } F ∧ w.grownBy w' (some p) := by
  subst hM
  obtain ⟨wv, rv, ev, rows, hv, rfl⟩ := hp
  obtain ⟨Tt, xx, hx⟩ := (hE.on hW).here 0 (by simp)
  have HV := Pl.hid hv
  have HM := Pl.hid h
  have HX : Hid (Lib.indexByte (Lib.bytesOf (Pl.natL (l.take (m + 1)))) (10 : Int).toNat.toUInt8 = -1) := by
    show _ = _
    rw [Pl.bytesOf_natL]
    exact Pl.lineM_none ht
  have HN := Pl.hid ((HM.out.take (m + 1)).nums)
  have HE := Pl.hid he
  have hpl := hv.lt
  clear h ht hE hW he hv
  go_enter Tryd.func88, Tryd.ntmps88
  go_wp2_with fail
  have hk : (min (l.length : Int) ((m : Int) + 1)).toNat = (l.take (m + 1)).length := by rw [List.length_take]; omega
  rw [hk]
  refine (Tryd.bytes_IndexByte g o _ c (Pl.natL (l.take (m + 1))) 10 w (Pl.natL_length _) HN.out).mono ?_
  rw [HX.out]
  rintro e w1 ⟨rfl, rfl⟩
  clear hk
  rcases Nat.lt_or_ge m l.length with hlm | hlm
  · go_wp2_with (first | (refine Mm.wp_storeF _ rfl 53 _ _ (by rfl) (by kernel_rfl) p 7 90 (Mm.cellsP bv wv rv ev st) (.iface Tt xx) HV.out.1 (by rfl) (by rfl) (by simp [Mm.cellsP]) rfl rfl ?_; intro w2 h2 hz2 hg2; clear hz2))
    go_ret2
    refine ⟨rfl, ⟨wv, rv, .iface Tt xx, rows, HV.out.store hg2 h2 rfl rfl (.inl ⟨decide_eq_true hlm, _, _, rfl⟩), rfl⟩, hg2⟩
  · go_wp2_with fail
    go_ret2
    refine ⟨rfl, ⟨wv, rv, ev, rows, ?_, rfl⟩, ⟨rfl, rfl, rfl, Nat.le_refl _, fun _ _ _ => rfl⟩⟩
    rw [show decide (m < l.length) = st.err by rw [HE.out]; exact decide_eq_false (by omega)]
    exact HV.out
end Go.Proofs.YtakldjdohgmeiaaDoor

namespace Go.Proofs.YtakldjdohgmeiaaDoor
open Go.RowKit
set_option maxRecDepth 20000

namespace Pl
theorem hasSuffix_cr (t : List UInt8) : Lib.hasSuffix t [13] = crB t := by
  unfold Lib.hasSuffix crB
  rcases List.eq_nil_or_concat t with rfl | ⟨a, c, rfl⟩
  · rfl
  · rw [List.concat_eq_append, List.getLast?_append, Bool.eq_iff_iff]
    simp only [List.isSuffixOf_iff_suffix, decide_eq_true_eq]
    constructor
    · rintro ⟨b, hb⟩
      have := congrArg List.getLast? hb
      simpa using this.symm
    · intro h
      obtain rfl : c = 13 := by simpa using h
      exact List.suffix_append _ _
theorem crB_pos {t : List UInt8} (h : crB t = true) : 0 < t.length := by
  cases t with
  | nil => simp [crB] at h
  | cons _ _ => simp
theorem trim_yes {t : List UInt8} (h : crB t = true) (g o k : Nat) : Lib.trimSuffixV (some ⟨g, o, none⟩) (k + 1) (k + 1) (natL t) [13] = .slice (some ⟨g, o, none⟩) k (k + 1) := by
  show Lib.bytesTrimSuffix g o (k + 1) (k + 1) (natL t) [13] = _
  unfold Lib.bytesTrimSuffix
  rw [bytesOf_natL, show Lib.bytesOf [13] = [13] from rfl, hasSuffix_cr, if_pos h]
  rfl
theorem trim_no {t : List UInt8} (h : crB t = false) (g o k : Nat) : Lib.trimSuffixV (some ⟨g, o, none⟩) k k (natL t) [13] = .slice (some ⟨g, o, none⟩) k k := by
  show Lib.bytesTrimSuffix g o k k (natL t) [13] = _
  unfold Lib.bytesTrimSuffix
  rw [bytesOf_natL, show Lib.bytesOf [13] = [13] from rfl, hasSuffix_cr, h]
  rfl
def nuE : Option (Int × Nat) → Ending
  | some (n, k) => .returned (.tuple #[.int .i64 n, .int .i64 (k : Int), .bool true])
  | none => .returned (.tuple #[.int .i64 0, .int .i64 0, .bool false])
theorem numM_some {l t : List UInt8} {lo hi : Int} (h : lineM l 32 = some t) : numM l lo hi = if numOk t lo hi = true then (some (rIv t.dropLast.tail, t.length + 1), false) else (none, true) := by unfold numM; rw [h]
end Pl

namespace Mm
open Pl
theorem conv_at (w : World) (g o n c : Nat) (l : List UInt8) (hl : l.length = n) (h : BytesAt w g o l) :
    (convert 24 9 (.slice (some ⟨g, o, none⟩) n c)).run Tryd.prog w = .ok (.string (B l)) w := by
  subst hl
  have := run_convert_bytes_back (P := Tryd.prog) w 24 9 5 ⟨g, o, none⟩ c l Tryd.underlying24 Tryd.underlying5 Tryd.underlying9 (fun j hj => by
    have e : (⟨g, o, none⟩ : Addr).add j = ⟨g, o + j, none⟩ := by unfold Addr.add; split <;> simp_all
    rw [e, h j hj]
    unfold at_
    rw [List.getD_eq_getElem?_getD, List.getElem?_eq_getElem hj]
    rfl)
  exact this
theorem PQ.below {w w' : World} {p : Nat} {bv : Value} {st : Pst} {F : Nat → Prop} (h : PQ w p bv st F) (hb : Below w.heap.size w w') : PQ w' p bv st F := by
  obtain ⟨wv, rv, ev, rows, h, rfl⟩ := h
  exact ⟨wv, rv, ev, rows, h.below hb, rfl⟩
theorem gBelow {a b : World} {r : Option Nat} (h : Below a.heap.size a b) : a.grownBy b r := ⟨h.os, h.tape, h.output, h.size, fun i hi _ => h.block i hi⟩
theorem gTrans {a b c : World} {r : Option Nat} (h : a.grownBy b r) (k : b.grownBy c r) : a.grownBy c r :=
  ⟨k.os.trans h.os, k.tape.trans h.tape, k.output.trans h.output, Nat.le_trans h.size k.size, fun i hi hn => (k.block i (Nat.lt_of_lt_of_le hi h.size) hn).trans (h.block i hi hn)⟩
end Mm

set_option maxHeartbeats 4000000 in
theorem number_walk (p g o c : Nat) (lo hi : Int) (l : List UInt8) (bv : Value) (st : Pl.Pst) (F : Nat → Prop) (T : TypeId) (xv : Value) (W w : World) (hR : Mm.RErr W) (hE : Mm.Errs W) (hW : Below W.heap.size W w) (hl : l.length ≤ 140737488351232) (hc : l.length ≤ c) (h0 : 0 < l.length) (h : Mm.BytesAt w g o l)
    (hp : Mm.PQ w p bv st F) (he : st.err = false) :
    Calls Tryd.prog 87 #[.pointer (some ⟨p, 0, none⟩), .slice (some ⟨g, o, none⟩) l.length c, .int .i64 lo, .int .i64 hi, .iface T xv] w fun e w' => e = Pl.nuE (Pl.numM l lo hi).1 ∧ Mm.PQ w' p bv { st with err := (Pl.numM l lo hi).2 } F ∧ w.grownBy w' (some p) := by
  have HE := Pl.hid hE
  have HR := Pl.hid hR
  have HW := Pl.hid hW
  have HM := Pl.hid h
  have HP := Pl.hid hp
  have He := Pl.hid he
  clear hE hR hW h hp he
  cases hline : Pl.lineM l 32 with
  | none =>
    have hq : Pl.numM l lo hi = (none, decide (32 < l.length)) := by unfold Pl.numM; rw [hline]
    rw [hq]
    have HL := Pl.hid hline
    clear hline hq
    go_enter Tryd.func87, Tryd.ntmps87
    go_wp2_with fail
    refine (line_none p g o c 32 32 rfl l bv st F W w HR.out HW.out hl hc (by decide) HM.out HL.out HP.out He.out).mono ?_
    rintro e w1 ⟨rfl, hp1, hg1⟩
    have HP1 := Pl.hid hp1
    have HG1 := Pl.hid hg1
    clear hp1 hg1
    go_wp2_with fail
    go_ret3
    exact ⟨rfl, HP1.out, HG1.out⟩
  | some t =>
    rw [Pl.numM_some hline]
    have HL := Pl.hid hline
    obtain ⟨_, _, ht, htl, ht32⟩ := Pl.lineM_some hline
    have HMt : Hid (Mm.BytesAt w g o t) := by
      have := HM.out.take t.length
      rwa [← ht] at this
    have htc : t.length ≤ c := by omega
    clear hline ht
    have HB1 := Pl.hid ((Below.refl w.heap.size w).alloc (Nat.le_refl _) (.cells #[.int .u8 13] 5))
    have HX1 : Hid (Lib.BytesIn (w.alloc (.cells #[.int .u8 13] 5)) (some ⟨g, o, none⟩) t.length (Pl.natL t)) := Mm.BytesAt.byteIn (g := g) (o := o) fun hpos => ⟨rfl, HMt.out.keep (HB1.out.block g (HMt.out.lt hpos))⟩
    have HX2 : Hid (Lib.BytesIn (w.alloc (.cells #[.int .u8 13] 5)) (some ⟨w.heap.size, 0, none⟩) 1 [13]) := fun _ => ⟨w.heap.size, 0, rfl, fun i hi => by
      rw [World.cell?_alloc_mark]
      match i, hi with
      | 0, _ => rfl⟩
    cases hcr : Pl.crB t with
    | false =>
      have hno : Pl.numOk t lo hi = false := by unfold Pl.numOk; rw [hcr]; rfl
      rw [hno, if_neg (by simp)]
      clear hno
      obtain ⟨wv, rv, ev, rows, hv, rfl⟩ := HP.out
      obtain ⟨Tt, xx, hx⟩ := (HR.out.on (HW.out.trans (HB1.out.mono HW.out.size))).here 3 (by simp)
      have HV := Pl.hid (hv.below HB1.out)
      have hpl := hv.lt
      have HT := Pl.hid (Pl.trim_no hcr g o t.length)
      have HS : Hid (Lib.hasSuffix (Lib.bytesOf (Pl.natL t)) (Lib.bytesOf [13]) = false) := by
        show _ = _
        rw [Pl.bytesOf_natL]
        exact (Pl.hasSuffix_cr t).trans hcr
      clear hcr hv
      have ht47 : t.length ≤ 9223372036854775807 := by omega
      clear htl ht32
      go_enter Tryd.func87, Tryd.ntmps87
      go_wp2_with fail
      refine (line_some _ g o c 32 32 rfl l t w hl hc h0 (by decide) HM.out HL.out).mono ?_
      rintro e w1 ⟨rfl, rfl⟩
      go_wp2_with fail
      refine (Tryd.bytes_CutSuffix_all _ _ t.length t.length 1 1 (Pl.natL t) [13] _ (Pl.natL_length t) rfl (Nat.le_refl _) ht47 HX1.out HX2.out).mono ?_
      rw [HT.out, HS.out]
      rintro e w1 ⟨rfl, rfl⟩
      go_wp2_with (first | (refine Mm.wp_storeF _ rfl 53 _ _ (by rfl) (by kernel_rfl) p 7 90 (Mm.cellsP bv wv rv ev st) (.iface Tt xx) HV.out.1 (by rfl) (by rfl) (by simp [Mm.cellsP]) rfl rfl ?_; intro w2 h2 hz2 hg2; clear hz2))
      go_ret3
      exact ⟨rfl, ⟨wv, rv, .iface Tt xx, rows, HV.out.store hg2 h2 rfl rfl (.inl ⟨rfl, _, _, rfl⟩), rfl⟩, Mm.gTrans (Mm.gBelow HB1.out) hg2⟩
    | true =>
      obtain ⟨k, hk⟩ : ∃ k, t.length = k + 1 := ⟨t.length - 1, by have := Pl.crB_pos hcr; omega⟩
      have HT := Pl.hid (Pl.trim_yes hcr g o k)
      have HS : Hid (Lib.hasSuffix (Lib.bytesOf (Pl.natL t)) (Lib.bytesOf [13]) = true) := by
        show _ = _
        rw [Pl.bytesOf_natL]
        exact (Pl.hasSuffix_cr t).trans hcr
      have HK := Pl.hid hk
      rw [hk] at HX1
      have HNL := Pl.hid ((Pl.natL_length t).trans hk)
      cases k with
      | zero =>
        have hno : Pl.numOk t lo hi = false := by unfold Pl.numOk; rw [decide_eq_false (show ¬ 2 ≤ t.length by omega)]; simp
        rw [hno, if_neg (by simp)]
        clear hno hk hcr
        obtain ⟨wv, rv, ev, rows, hv, rfl⟩ := HP.out
        obtain ⟨Tt, xx, hx⟩ := (HR.out.on (HW.out.trans (HB1.out.mono HW.out.size))).here 3 (by simp)
        have HV := Pl.hid (hv.below HB1.out)
        have hpl := hv.lt
        clear hv
        clear htl ht32
        go_enter Tryd.func87, Tryd.ntmps87
        go_wp2_with fail
        refine (line_some _ g o c 32 32 rfl l t w hl hc h0 (by decide) HM.out HL.out).mono ?_
        rw [HK.out]
        rintro e w1 ⟨rfl, rfl⟩
        go_wp2_with fail
        refine (Tryd.bytes_CutSuffix_all _ _ 1 1 1 1 (Pl.natL t) [13] _ HNL.out rfl (Nat.le_refl _) (by decide) HX1.out HX2.out).mono ?_
        rw [show (1 : Nat) = 0 + 1 from rfl, HT.out, HS.out]
        rintro e w1 ⟨rfl, rfl⟩
        go_wp2_with (first | (refine Mm.wp_storeF _ rfl 53 _ _ (by rfl) (by kernel_rfl) p 7 90 (Mm.cellsP bv wv rv ev st) (.iface Tt xx) HV.out.1 (by rfl) (by rfl) (by simp [Mm.cellsP]) rfl rfl ?_; intro w2 h2 hz2 hg2; clear hz2))
        go_ret3
        exact ⟨rfl, ⟨wv, rv, .iface Tt xx, rows, HV.out.store hg2 h2 rfl rfl (.inl ⟨rfl, _, _, rfl⟩), rfl⟩, Mm.gTrans (Mm.gBelow HB1.out) hg2⟩
      | succ k =>
        have hdl : t.dropLast.tail.length = k := by rw [List.length_tail, List.length_dropLast]; omega
        have HD : Hid (Mm.BytesAt (w.alloc (.cells #[.int .u8 13] 5)) g (o + 1) t.dropLast.tail) := by
          have := (HMt.out.keep (HB1.out.block g (HMt.out.lt (by omega)))).drop 1 |>.take k
          rwa [show (t.drop 1).take k = t.dropLast.tail by rw [List.dropLast_eq_take, ← List.drop_one, List.take_drop]; congr 2 <;> omega] at this
        have HCV := Pl.hid (Mm.conv_at _ g (o + 1) k (k + 1) _ hdl HD.out)
        have hB : (Pl.B t.dropLast.tail).size ≤ 140737488351232 := by rw [Pl.B_size]; omega
        have hin := Pl.rIv_in t.dropLast.tail
        have hok : Pl.numOk t lo hi = (decide (Pl.rIc t.dropLast.tail = 0) && decide (lo ≤ Pl.rIv t.dropLast.tail) && decide (Pl.rIv t.dropLast.tail ≤ hi)) := by
          unfold Pl.numOk
          rw [hcr, decide_eq_true (show 2 ≤ t.length by omega)]
          rfl
        rw [hok]
        have HI := Pl.hid (fun w' => int_walk (Pl.B t.dropLast.tail) w' hB)
        rw [Pl.L_B] at HI
        obtain ⟨v, hv⟩ : ∃ v, Pl.rIv t.dropLast.tail = v := ⟨_, rfl⟩
        have hcode : Pl.rIc t.dropLast.tail = 0 ∨ Pl.rIc t.dropLast.tail = 10 := by unfold Pl.rIc; split <;> simp
        obtain ⟨wv, rv, ev, rows, hp, rfl⟩ := HP.out
        have HV := Pl.hid (hp.below HB1.out)
        have hpl := hp.lt
        obtain ⟨hv1, hv2⟩ := hin
        rw [hv] at hv1 hv2
        rw [hv] at HI ⊢
        have HEw := Pl.hid (HE.out.on (HW.out.trans (HB1.out.mono HW.out.size)))
        have hkb : k ≤ 32 := by omega
        have HBd : Hid (Pl.B t.dropLast.tail = Pl.B t.dropLast.tail) := rfl
        clear hok hB hv hp hcr hdl htl ht32 htc hk HBd
        rw [HK.out]
        rcases hcode with hcode | hcode
        · rw [hcode] at HI ⊢
          clear hcode
          rcases Int.lt_or_le v lo with h1 | h1
          · rw [decide_eq_false (show ¬ lo ≤ v by omega)]
            simp only [Bool.and_false, Bool.false_and, Bool.false_eq_true, if_false]
            go_enter Tryd.func87, Tryd.ntmps87
            go_wp2_with fail
            refine (line_some _ g o c 32 32 rfl l t w hl hc h0 (by decide) HM.out HL.out).mono ?_
            rw [HK.out]
            rintro e w1 ⟨rfl, rfl⟩
            go_wp2_with fail
            refine (Tryd.bytes_CutSuffix_all _ _ (k + 1 + 1) (k + 1 + 1) 1 1 (Pl.natL t) [13] _ HNL.out rfl (Nat.le_refl _) (by omega) HX1.out HX2.out).mono ?_
            rw [HT.out, HS.out]
            rintro e w1 ⟨rfl, rfl⟩
            have hcv := HCV.out
            go_wp2_with fail
            clear hcv
            refine (HI.out _ HEw.out).mono ?_
            rintro e w2 ⟨rfl, hb2⟩
            have HB2 := Pl.hid (HB1.out.trans (hb2.mono HB1.out.size))
            have HV2 := Pl.hid (HV.out.below hb2)
            clear hb2
            go_wp2_with (first | (refine Mm.wp_storeF _ rfl 53 _ _ (by rfl) (by kernel_rfl) p 7 90 (Mm.cellsP bv wv rv ev st) (.iface T xv) HV2.out.1 (by rfl) (by rfl) (by simp [Mm.cellsP]) rfl rfl ?_; intro w3 h3 hz3 hg3; clear hz3))
            go_ret3
            exact ⟨rfl, ⟨wv, rv, .iface T xv, rows, HV2.out.store hg3 h3 rfl rfl (.inl ⟨rfl, _, _, rfl⟩), rfl⟩, Mm.gTrans (Mm.gBelow HB2.out) hg3⟩
          · rcases Int.lt_or_le hi v with h2 | h2
            · rw [decide_eq_false (show ¬ v ≤ hi by omega)]
              simp only [Bool.and_false, Bool.false_eq_true, if_false]
              go_enter Tryd.func87, Tryd.ntmps87
              go_wp2_with fail
              refine (line_some _ g o c 32 32 rfl l t w hl hc h0 (by decide) HM.out HL.out).mono ?_
              rw [HK.out]
              rintro e w1 ⟨rfl, rfl⟩
              go_wp2_with fail
              refine (Tryd.bytes_CutSuffix_all _ _ (k + 1 + 1) (k + 1 + 1) 1 1 (Pl.natL t) [13] _ HNL.out rfl (Nat.le_refl _) (by omega) HX1.out HX2.out).mono ?_
              rw [HT.out, HS.out]
              rintro e w1 ⟨rfl, rfl⟩
              have hcv := HCV.out
              go_wp2_with fail
              clear hcv
              refine (HI.out _ HEw.out).mono ?_
              rintro e w2 ⟨rfl, hb2⟩
              have HB2 := Pl.hid (HB1.out.trans (hb2.mono HB1.out.size))
              have HV2 := Pl.hid (HV.out.below hb2)
              clear hb2
              go_wp2_with (first | (refine Mm.wp_storeF _ rfl 53 _ _ (by rfl) (by kernel_rfl) p 7 90 (Mm.cellsP bv wv rv ev st) (.iface T xv) HV2.out.1 (by rfl) (by rfl) (by simp [Mm.cellsP]) rfl rfl ?_; intro w3 h3 hz3 hg3; clear hz3))
              go_ret3
              exact ⟨rfl, ⟨wv, rv, .iface T xv, rows, HV2.out.store hg3 h3 rfl rfl (.inl ⟨rfl, _, _, rfl⟩), rfl⟩, Mm.gTrans (Mm.gBelow HB2.out) hg3⟩
            · rw [decide_eq_true h1, decide_eq_true h2]
              simp only [decide_true, Bool.and_true, if_true]
              go_enter Tryd.func87, Tryd.ntmps87
              go_wp2_with fail
              refine (line_some _ g o c 32 32 rfl l t w hl hc h0 (by decide) HM.out HL.out).mono ?_
              rw [HK.out]
              rintro e w1 ⟨rfl, rfl⟩
              go_wp2_with fail
              refine (Tryd.bytes_CutSuffix_all _ _ (k + 1 + 1) (k + 1 + 1) 1 1 (Pl.natL t) [13] _ HNL.out rfl (Nat.le_refl _) (by omega) HX1.out HX2.out).mono ?_
              rw [HT.out, HS.out]
              rintro e w1 ⟨rfl, rfl⟩
              have hcv := HCV.out
              go_wp2_with fail
              clear hcv
              refine (HI.out _ HEw.out).mono ?_
              rintro e w2 ⟨rfl, hb2⟩
              have HB2 := Pl.hid (HB1.out.trans (hb2.mono HB1.out.size))
              have HV2 := Pl.hid (HV.out.below hb2)
              clear hb2
              go_wp2_with fail
              go_ret3
              refine ⟨rfl, ⟨wv, rv, ev, rows, ?_, rfl⟩, Mm.gBelow HB2.out⟩
              rw [← He.out]
              exact HV2.out
        · rw [hcode] at HI ⊢
          clear hcode
          simp only [show ¬ ((10 : Int) = 0) by decide, decide_false, Bool.false_and, Bool.false_eq_true, if_false]
          go_enter Tryd.func87, Tryd.ntmps87
          go_wp2_with fail
          refine (line_some _ g o c 32 32 rfl l t w hl hc h0 (by decide) HM.out HL.out).mono ?_
          rw [HK.out]
          rintro e w1 ⟨rfl, rfl⟩
          go_wp2_with fail
          refine (Tryd.bytes_CutSuffix_all _ _ (k + 1 + 1) (k + 1 + 1) 1 1 (Pl.natL t) [13] _ HNL.out rfl (Nat.le_refl _) (by omega) HX1.out HX2.out).mono ?_
          rw [HT.out, HS.out]
          rintro e w1 ⟨rfl, rfl⟩
          have hcv := HCV.out
          go_wp2_with fail
          clear hcv
          refine (HI.out _ HEw.out).mono ?_
          rintro e w2 ⟨rfl, hb2⟩
          have HB2 := Pl.hid (HB1.out.trans (hb2.mono HB1.out.size))
          have HV2 := Pl.hid (HV.out.below hb2)
          clear hb2
          go_wp2_with (first | (refine Mm.wp_storeF _ rfl 53 _ _ (by rfl) (by kernel_rfl) p 7 90 (Mm.cellsP bv wv rv ev st) (.iface T xv) HV2.out.1 (by rfl) (by rfl) (by simp [Mm.cellsP]) rfl rfl ?_; intro w3 h3 hz3 hg3; clear hz3))
          go_ret3
          exact ⟨rfl, ⟨wv, rv, .iface T xv, rows, HV2.out.store hg3 h3 rfl rfl (.inl ⟨rfl, _, _, rfl⟩), rfl⟩, Mm.gTrans (Mm.gBelow HB2.out) hg3⟩
end Go.Proofs.YtakldjdohgmeiaaDoor

namespace Go.Proofs.YtakldjdohgmeiaaDoor
open Go.RowKit
set_option maxRecDepth 20000

namespace Pl
theorem numM_ok {l : List UInt8} {lo hi : Int} {q : Int × Nat} {e : Bool} (h : numM l lo hi = (some q, e)) : e = false := by
  unfold numM at h
  split at h
  · cases h
  · split at h
    · injection h with _ h; exact h.symm
    · cases h
theorem numM_in {l : List UInt8} {lo hi n : Int} {k : Nat} {e : Bool} (h : numM l lo hi = (some (n, k), e)) : lo ≤ n ∧ n ≤ hi ∧ k ≤ 33 ∧ 0 < k ∧ k ≤ l.length := by
  unfold numM at h
  cases ht : lineM l 32 with
  | none => rw [ht] at h; cases h
  | some t =>
    rw [ht] at h
    simp only at h
    split at h
    · rename_i hk
      injection h with h _
      injection h with h
      injection h with h1 h2
      have := lineM_some ht
      unfold numOk at hk
      simp only [Bool.and_eq_true, decide_eq_true_eq] at hk
      subst h1
      omega
    · cases h
theorem Pst.same {st : Pst} (h : st.err = false) : { st with err := false } = st := by cases st; simp at h; simp [h]
end Pl

namespace Mm
open Pl
theorem cellOf {w : World} {p i : Nat} {cs : Array Value} {T : TypeId} {z : Nat × Nat} {v : Value} (h : w.heap[p]? = some (.cells cs T z)) (hi : cs[i]? = some v) : w.cell? ⟨p, i, none⟩ = some v := by
  unfold World.cell?
  rw [h]
  exact hi
theorem belowG {W w w' : World} {p : Nat} (h : Below W.heap.size W w) (hg : w.grownBy w' (some p)) (hp : W.heap.size ≤ p) : Below W.heap.size W w' :=
  h.grown hg h.size (fun k hk => by injection hk with hk; omega)
/-- stores to the parser's own block, the words given up -/
theorem PV.clear {w w' : World} {p : Nat} {bv wv rv ev bv' ev' : Value} {st st' : Pst} {rows : List Value} (h : PV w p bv st wv rv ev rows) (hg : w.grownBy w' (some p)) (hp : w'.heap[p]? = some (.cells (cellsP bv' (.slice none 0 0) rv ev' st') 90 (0, 0)))
    (h1 : st'.words = []) (h2 : st'.ready = st.ready) (h3 : ErrV st'.err ev') : PV w' p bv' st' (.slice none 0 0) rv ev' rows := by
  have hne : ∀ g, p + 1 ≤ g → ¬ some g = some p := fun g hg e => by injection e with e; omega
  refine ⟨hp, ?_, ownsRow_keep h.2.2.1 (fun g hg' => hg.block g (h.2.2.1.lt g hg').2 (hne g (h.2.2.1.lt g hg').1)), ?_, fun g hg => (by cases hg), fun v hv => ⟨fun g _ hg => (by cases hg), (h.2.2.2.2.2.1 v hv).2⟩, h3⟩
  · rw [h1]
    exact ownS_nil _ _
  · rw [h2]
    exact h.2.2.2.1.keep (fun v hv g hg' => by
      obtain ⟨l, ho⟩ := h.2.2.2.1.row hv
      exact hg.block g (ho.lt g hg').2 (hne g (ho.lt g hg').1))
theorem chgOwn {w w' : World} {p : Nat} {wv rv wv' : Value} {rows : List Value} (h : w.grownBy w' (some p)) (hw : ∀ g, wv'.ownBlock = some g → foot p wv rv rows g) : Chg w (foot p wv rv rows) w' (foot p wv' rv rows) :=
  Chg.grown h (fun g e => by injection e with e; exact .inl e.symm) (fun g hg => by
    rcases hg with h1 | h1 | h1
    · exact .inl (.inl h1)
    · exact .inl (hw g h1)
    · exact .inl (.inr (.inr h1)))
end Mm

set_option maxHeartbeats 4000000 in
theorem count_walk (p g o c : Nat) (l : List UInt8) (bv : Value) (st : Pl.Pst) (F : Nat → Prop) (W w : World) (hR : Mm.RErr W) (hE : Mm.Errs W) (hW : Below W.heap.size W w) (hl : l.length ≤ 140737488351232) (hc : l.length ≤ c) (h0 : 0 < l.length) (h : Mm.BytesAt w g o l)
    (hp : Mm.PQ w p bv st F) (he : st.err = false) :
    Calls Tryd.prog 73 #[.pointer (some ⟨p, 0, none⟩), .slice (some ⟨g, o, none⟩) l.length c] w fun e w' => e = .returned (.int .i64 ((Pl.countM st l).1 : Int)) ∧ ∃ F', Mm.PQ w' p bv (Pl.countM st l).2 F' ∧ Mm.Chg w F w' F' := by
  obtain ⟨T, xv, hx⟩ := (hR.on hW).here 1 (by simp)
  have HC := Pl.hid (number_walk p g o c (-1) 1024 l bv st F T xv W w hR hE hW hl hc h0 h hp he)
  obtain ⟨wv, rv, ev, rows, hv, hF⟩ := hp
  have He := Pl.hid he
  clear hR hE hW h hv he hl hc h0
  unfold Pl.countM
  cases hq : Pl.numM l (-1) 1024 with
  | mk q e =>
  rw [hq] at HC
  cases q with
  | none =>
    simp only
    go_enter Tryd.func73, Tryd.ntmps73
    go_wp2_with fail
    refine HC.out.mono ?_
    rintro e w1 ⟨rfl, hp1, hg1⟩
    have HP1 := Pl.hid hp1
    have HG1 := Pl.hid hg1
    clear hp1 hg1 hx
    simp only [Pl.nuE]
    go_wp2_with fail
    go_ret
    exact ⟨rfl, F, HP1.out, Mm.Chg.grown HG1.out (fun g e => by rw [hF]; injection e with e; exact .inl e.symm) (fun _ h => .inl h)⟩
  | some nk =>
    obtain ⟨n, k⟩ := nk
    obtain rfl : e = false := Pl.numM_ok hq
    rw [Pl.Pst.same He.out] at HC
    clear hq
    simp only
    rcases Int.lt_or_le 0 n with hn | hn
    · rw [if_pos hn]
      obtain ⟨m, rfl⟩ := Int.eq_ofNat_of_zero_le (Int.le_of_lt hn)
      go_enter Tryd.func73, Tryd.ntmps73
      go_wp2_with fail
      refine HC.out.mono ?_
      rintro e w1 ⟨rfl, hp1, hg1⟩
      obtain ⟨wv1, rv1, ev1, rows1, hv1, hF1⟩ := hp1
      have HV1 := Pl.hid hv1
      have HG1 := Pl.hid hg1
      have hpl := hv1.lt
      clear hv1 hg1 hx
      simp only [Pl.nuE]
      go_wp2_with (first
        | (refine Mm.wp_storeF _ rfl 3 _ _ (by rfl) (by kernel_rfl) p 3 90 (Mm.cellsP bv wv1 rv1 ev1 _) _ HV1.out.1 (by rfl) (by rfl) (by simp [Mm.cellsP]) rfl rfl ?_; intro w3 h3 hz3 hg3; have H3 := Pl.hid h3; have HG3 := Pl.hid hg3; clear h3 hz3 hg3)
        | (refine Mm.wp_storeF _ rfl 3 _ _ (by rfl) (by kernel_rfl) p 4 90 _ _ H3.out (by rfl) (by rfl) (by simp [Mm.cellsP]) rfl rfl ?_; intro w4 h4 hz4 hg4; have H4 := Pl.hid h4; have HG4 := Pl.hid hg4; clear h4 hz4 hg4)
        | (refine Mm.wp_storeF _ rfl 22 _ _ (by rfl) (by kernel_rfl) p 2 90 _ _ H4.out (by rfl) (by rfl) (by simp [Mm.cellsP]) rfl rfl ?_; intro w5 h5 hz5 hg5; have H5 := Pl.hid h5; have HG5 := Pl.hid hg5; clear h5 hz5 hg5)
        | (refine Mm.wp_storeF _ rfl 3 _ _ (by rfl) (by kernel_rfl) p 1 90 _ _ H5.out (by rfl) (by rfl) (by simp [Mm.cellsP]) rfl rfl ?_; intro w6 h6 hz6 hg6; have H6 := Pl.hid h6; have HG6 := Pl.hid hg6; clear h6 hz6 hg6))
      go_ret
      have hgg := Mm.gTrans HG3.out (Mm.gTrans HG4.out (Mm.gTrans HG5.out HG6.out))
      refine ⟨rfl, Mm.foot p (.slice none 0 0) rv1 rows1, ⟨_, _, ev1, rows1, HV1.out.clear hgg H6.out rfl rfl ?_, rfl⟩, ?_⟩
      · exact HV1.out.2.2.2.2.2.2
      · refine Mm.Chg.trans (Mm.Chg.grown HG1.out (F' := F) (fun g e => by rw [hF]; injection e with e; exact .inl e.symm) (fun _ h => .inl h)) ?_
        rw [hF1]
        exact Mm.chgOwn hgg (fun g hg => by cases hg)
    · rw [if_neg (by omega)]
      go_enter Tryd.func73, Tryd.ntmps73
      go_wp2_with fail
      refine HC.out.mono ?_
      rintro e w1 ⟨rfl, hp1, hg1⟩
      have HP1 := Pl.hid hp1
      have HG1 := Pl.hid hg1
      clear hp1 hg1 hx
      simp only [Pl.nuE]
      go_wp2_with fail
      go_ret
      exact ⟨rfl, F, HP1.out, Mm.Chg.grown HG1.out (fun g e => by rw [hF]; injection e with e; exact .inl e.symm) (fun _ h => .inl h)⟩

set_option maxHeartbeats 4000000 in
theorem length_walk (p g o c : Nat) (l : List UInt8) (bv : Value) (st : Pl.Pst) (F : Nat → Prop) (W w : World) (hpW : W.heap.size ≤ p) (hR : Mm.RErr W) (hE : Mm.Errs W) (hW : Below W.heap.size W w) (hl : l.length ≤ 140737488351232) (hc : l.length ≤ c) (h0 : 0 < l.length) (h : Mm.BytesAt w g o l)
    (hp : Mm.PQ w p bv st F) (he : st.err = false) (hs : st.size ≤ 4194304) (hu : st.used ≤ 4503599627370496) :
    Calls Tryd.prog 72 #[.pointer (some ⟨p, 0, none⟩), .slice (some ⟨g, o, none⟩) l.length c] w fun e w' => e = .returned (.int .i64 ((Pl.lengthM st l).1 : Int)) ∧ ∃ F', Mm.PQ w' p bv (Pl.lengthM st l).2 F' ∧ Mm.Chg w F w' F' := by
  obtain ⟨T3, x3, hx3⟩ := (hR.on hW).here 4 (by simp)
  obtain ⟨T, xv, hx⟩ := (hR.on hW).here 5 (by simp)
  have HC := Pl.hid (number_walk p g o c 0 1048576 l bv st F T xv W w hR hE hW hl hc h0 h hp he)
  have HR := Pl.hid hR
  have HW := Pl.hid hW
  have HPW := Pl.hid hpW
  have b0 := h 0 h0
  rw [Nat.add_zero] at b0
  obtain ⟨wv, rv, ev, rows, hv, hF⟩ := hp
  have He := Pl.hid he
  have HV := Pl.hid hv
  have hpl := hv.lt
  clear hR hE hW h hv he hl hc hpW
  unfold Pl.lengthM
  rcases Decidable.em (l.head? = some 36) with h36 | h36
  · rw [if_neg (by simpa using h36)]
    have hb : (Pl.at_ l 0 == 36) = true := by
      cases l with
      | nil => exact absurd h0 (by simp)
      | cons c0 l =>
        injection h36 with h36
        subst h36
        rfl
    generalize Pl.at_ l 0 = a0 at b0 hb
    clear h36
    cases hq : Pl.numM l 0 1048576 with
    | mk q e =>
    rw [hq] at HC
    cases q with
    | none =>
      simp only
      go_enter Tryd.func72, Tryd.ntmps72
      go_wp2_with fail
      refine HC.out.mono ?_
      rintro e w1 ⟨rfl, hp1, hg1⟩
      have HP1 := Pl.hid hp1
      have HG1 := Pl.hid hg1
      clear hp1 hg1 hx hx3 b0 hb
      simp only [Pl.nuE]
      go_wp2_with fail
      go_ret
      exact ⟨rfl, F, HP1.out, Mm.Chg.grown HG1.out (fun g e => by rw [hF]; injection e with e; exact .inl e.symm) (fun _ h => .inl h)⟩
    | some nk =>
      obtain ⟨n, k⟩ := nk
      obtain rfl : e = false := Pl.numM_ok hq
      obtain ⟨hn0, hn1, hk, _, _⟩ := Pl.numM_in hq
      rw [Pl.Pst.same He.out] at HC
      clear hq
      simp only
      obtain ⟨m, rfl⟩ := Int.eq_ofNat_of_zero_le hn0
      have htn : ((m : Int)).toNat = m := rfl
      rw [htn]
      clear htn
      rcases Nat.lt_or_ge 4194304 (st.size + m) with hbig | hbig
      · rw [if_pos hbig]
        go_enter Tryd.func72, Tryd.ntmps72
        go_wp2_with fail
        refine HC.out.mono ?_
        rintro e w1 ⟨rfl, ⟨wv1, rv1, ev1, rows1, hv1, hF1⟩, hg1⟩
        have HV1 := Pl.hid hv1
        have HG1 := Pl.hid hg1
        have hpl := hv1.lt
        have hc4 := hv1.cell 4 (.int .i64 (st.size : Int)) rfl
        have HW1 := Pl.hid (Mm.belowG HW.out hg1 HPW.out)
        clear hv1 hg1 hx b0 hb hx3
        simp only [Pl.nuE]
        go_wp2_with (first
          | (refine Mm.wp_storeF _ rfl 3 _ _ (by rfl) (by kernel_rfl) p 4 90 (Mm.cellsP bv wv1 rv1 ev1 st) _ HV1.out.1 (by rfl) (by rfl) (by simp [Mm.cellsP]) rfl rfl ?_; intro w3 h3 hz3 hg3; have H3 := Pl.hid h3; have HG3 := Pl.hid hg3; clear h3 hz3 hg3; clear hc4; have hc4 := Mm.cellOf (i := 4) (v := .int .i64 ((st.size : Int) + (m : Int))) H3.out rfl; obtain ⟨T2, x2, hx2⟩ := (HR.out.on (Mm.belowG HW1.out HG3.out HPW.out)).here 0 (by simp))
          | (refine Mm.wp_storeF _ rfl 53 _ _ (by rfl) (by kernel_rfl) p 7 90 _ _ H3.out (by rfl) (by rfl) (by simp [Mm.cellsP]) rfl rfl ?_; intro w4 h4 hz4 hg4; have H4 := Pl.hid h4; have HG4 := Pl.hid hg4; clear h4 hz4 hg4))
        go_ret
        have hgg := Mm.gTrans HG3.out HG4.out
        have hcf : Mm.Chg w F w1 F := Mm.Chg.grown HG1.out (fun g e => by rw [hF]; injection e with e; exact .inl e.symm) (fun _ h => .inl h)
        refine ⟨rfl, F, ⟨wv1, rv1, .iface T2 x2, rows1, HV1.out.store hgg ?_ rfl rfl (.inl ⟨rfl, _, _, rfl⟩), hF1⟩, hcf.trans (Mm.Chg.grown hgg (fun g e => by rw [hF]; injection e with e; exact .inl e.symm) (fun _ h => .inl h))⟩
        exact H4.out
      · rw [if_neg (by omega)]
        go_enter Tryd.func72, Tryd.ntmps72
        go_wp2_with fail
        refine HC.out.mono ?_
        rintro e w1 ⟨rfl, ⟨wv1, rv1, ev1, rows1, hv1, hF1⟩, hg1⟩
        have HV1 := Pl.hid hv1
        have HG1 := Pl.hid hg1
        have hpl := hv1.lt
        have hc4 := hv1.cell 4 (.int .i64 (st.size : Int)) rfl
        clear hv1 hg1 hx b0 hb hx3
        simp only [Pl.nuE]
        go_wp2_with (first
          | (refine Mm.wp_storeF _ rfl 3 _ _ (by rfl) (by kernel_rfl) p 4 90 (Mm.cellsP bv wv1 rv1 ev1 st) _ HV1.out.1 (by rfl) (by rfl) (by simp [Mm.cellsP]) rfl rfl ?_; intro w3 h3 hz3 hg3; have H3 := Pl.hid h3; have HG3 := Pl.hid hg3; clear h3 hz3 hg3; clear hc4; have hc4 := Mm.cellOf (i := 4) (v := .int .i64 ((st.size : Int) + (m : Int))) H3.out rfl)
          | (refine Mm.wp_storeF _ rfl 3 _ _ (by rfl) (by kernel_rfl) p 5 90 _ _ H3.out (by rfl) (by rfl) (by simp [Mm.cellsP]) rfl rfl ?_; intro w4 h4 hz4 hg4; have H4 := Pl.hid h4; have HG4 := Pl.hid hg4; clear h4 hz4 hg4; clear hc4; have hc1 := Mm.cellOf (i := 1) (v := .int .i64 (st.used : Int)) H4.out rfl)
          | (refine Mm.wp_storeF _ rfl 3 _ _ (by rfl) (by kernel_rfl) p 1 90 _ _ H4.out (by rfl) (by rfl) (by simp [Mm.cellsP]) rfl rfl ?_; intro w5 h5 hz5 hg5; have H5 := Pl.hid h5; have HG5 := Pl.hid hg5; clear h5 hz5 hg5))
        go_ret
        have hgg := Mm.gTrans HG3.out (Mm.gTrans HG4.out HG5.out)
        have hcf : Mm.Chg w F w1 F := Mm.Chg.grown HG1.out (fun g e => by rw [hF]; injection e with e; exact .inl e.symm) (fun _ h => .inl h)
        refine ⟨rfl, F, ⟨wv1, rv1, ev1, rows1, HV1.out.store hgg ?_ rfl rfl HV1.out.2.2.2.2.2.2, hF1⟩, hcf.trans (Mm.Chg.grown hgg (fun g e => by rw [hF]; injection e with e; exact .inl e.symm) (fun _ h => .inl h))⟩
        exact H5.out
  · rw [if_pos h36]
    have hb : (Pl.at_ l 0 == 36) = false := by
      refine beq_eq_false_iff_ne.2 fun e => h36 ?_
      cases l with
      | nil => exact absurd h0 (by simp)
      | cons c0 l => exact congrArg some (UInt8.toNat_inj.1 (by have : ((c0.toNat : Nat) : Int) = 36 := e; show c0.toNat = 36; omega))
    generalize Pl.at_ l 0 = a0 at b0 hb
    clear h36 hx
    go_enter Tryd.func72, Tryd.ntmps72
    go_wp2_with (first | (refine Mm.wp_storeF _ rfl 53 _ _ (by rfl) (by kernel_rfl) p 7 90 (Mm.cellsP bv wv rv ev st) (.iface T3 x3) HV.out.1 (by rfl) (by rfl) (by simp [Mm.cellsP]) rfl rfl ?_; intro w3 h3 hz3 hg3; clear hz3))
    go_ret
    refine ⟨rfl, F, ⟨wv, rv, .iface T3 x3, rows, HV.out.store hg3 h3 rfl rfl (.inl ⟨rfl, _, _, rfl⟩), hF⟩, Mm.Chg.grown hg3 (fun g e => by rw [hF]; injection e with e; exact .inl e.symm) (fun _ h => .inl h)⟩
end Go.Proofs.YtakldjdohgmeiaaDoor
