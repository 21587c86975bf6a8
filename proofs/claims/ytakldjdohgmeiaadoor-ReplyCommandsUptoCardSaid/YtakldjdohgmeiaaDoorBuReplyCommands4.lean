/- Rows of texts that the call itself made; the words of a line, in plain Lean. Conditions stand in each law. Contract of request's Inline, of a line whose words are right: the words in a new row, no error. Conditions: at most 4096 bytes. Laws on memory for the walks of a parser: a field of a struct in a block of the call's own, bytes at a place, rows of commands. Conditions stand in each law. Replies as trees, and how they lie in memory. Conditions stand in each law. Rows whose cells are of no account: what an append, a store, leaves of them. Conditions stand in each law. Conditions stand in each law. -/
import Derived.Test.YtakldjdohgmeiaaDoorBuReplyCommands3
import Derived.Maps.AppendAt
import Derived.Laws.ResultCell
import Derived.Laws.Rows
import Derived.Deep.DeepAppendRoom
namespace Go.Proofs.YtakldjdohgmeiaaDoor
open Go.RowKit
set_option maxRecDepth 20000

theorem Tryd.info_str : (Tryd.prog.info? 9).map (fun i => (i.zero, i.size, i.bytes)) = some (some (.string ⟨#[]⟩), 1, 16) := by kernel_rfl

namespace Mm
open Pl
def strsV (l : List (List UInt8)) : List Value := l.map fun s => .string (B s)
theorem strsV_append (l m : List (List UInt8)) : strsV (l ++ m) = strsV l ++ strsV m := by simp [strsV]
/-- an owned row of texts -/
def OwnS (w : World) (base : Nat) (v : Value) (l : List (List UInt8)) : Prop := w.ownsRow base 9 1 v l.length (strsV l)
theorem ownS_nil (w : World) (b : Nat) : OwnS w b (.slice none 0 0) [] := ⟨rfl, .inl ⟨rfl, rfl⟩⟩
/-- its value is a slice of so many -/
theorem OwnS.val {w : World} {b : Nat} {v : Value} {l : List (List UInt8)} (h : OwnS w b v l) : ∃ a c, v = .slice a l.length c ∧ (l.length = 0 ∧ a = none ∧ c = 0 ∨ ∃ g, a = some ⟨g, 0, none⟩ ∧ b ≤ g ∧ g < w.heap.size ∧ l.length ≤ c) := by
  rcases h.2 with ⟨rfl, h0⟩ | ⟨g, cap, cur, rfl, hb, hg, hle, _⟩
  · exact ⟨none, 0, by rw [h0], .inl ⟨h0, rfl, rfl⟩⟩
  · exact ⟨_, _, rfl, .inr ⟨g, rfl, hb, (Array.getElem?_eq_some_iff.1 hg).1, hle⟩⟩
/-- 'append(words, s)' -/
theorem wp_app1S {ops : Array Oper} {rest : List Oper} {o : Oper} {a : Act} {Q : Exit → Act → World → Prop} (w : World) (hgd : o.guard = none) (x y : Operand)
    (ho : o.op = .call { callee := .builtin .append, args := #[x, y], argTypes := #[22, 22] })
    (base : Nat) (v : Value) (l : List (List UInt8)) (s : ByteArray) (hx : a.eval x = v) (hy : a.eval y = .slice (some ⟨w.heap.size, 0, none⟩) 1 1) (h : OwnS w base v l) (hl : l.length < 8796093022208) (hbase : base ≤ w.heap.size)
    (hK : ∀ v' w', OwnS w' base v' (l ++ [L s]) → Below base w w' → wpList Tryd.prog ops Q rest (a.put o.dst v') w') :
    wpList Tryd.prog ops Q (o :: rest) a (w.alloc (.cells #[.string s] 9)) := by
  obtain ⟨i0, hi, hz0, hz1, hz2⟩ := info_parts Tryd.info_str
  refine wpList_append_own _ hgd x y 22 ho base 9 i0 (.string ⟨#[]⟩) 1 16 Tryd.underlying22 hi hz0 hz1 hz2 rfl (by decide) v l.length (strsV l) hx (h.alloc _) ⟨w.heap.size, 0, none⟩ 1 1 [.string s] hy rfl ?_ ?_ ?_ ?_ ?_ ?_
  · intro j u hj
    match j, hj with
    | 0, hj =>
      simp at hj
      subst hj
      simp [Addr.add]
  · intro u hu
    simp at hu
    subst hu
    rfl
  · unfold maxLen; omega
  · omega
  · simp; omega
  · intro v' w' h1 h2 _
    refine hK v' w' (by unfold OwnS; rw [strsV_append, List.length_append]; simp only [strsV, List.map_cons, List.map_nil, B_L]; exact h1) (((Below.refl _ _).alloc hbase _).grown h2 (by simp; omega) (fun k hk => (h.lt k hk).1))
end Mm

namespace Pl
def blankB (c : UInt8) : Bool := c == 32 || c == 9
theorem nat_ne {c d : UInt8} (h : c ≠ d) (n : Int) (hd : (d.toNat : Int) = n) : ((c.toNat : Int) == n) = false := beq_eq_false_iff_ne.2 fun e => h (UInt8.toNat_inj.1 (by omega))
theorem blank_nat (c : UInt8) : ((c.toNat : Int) == 32 || (c.toNat : Int) == 9) = blankB c := by
  unfold blankB
  by_cases h1 : c = 32
  · subst h1; rfl
  · by_cases h2 : c = 9
    · subst h2; rfl
    · rw [beq_eq_false_iff_ne.2 h1, beq_eq_false_iff_ne.2 h2, nat_ne h1 32 rfl, nat_ne h2 9 rfl]
/-- the first word of a line that does not begin with a blank, and how many bytes it takes -/
def tok (l : List UInt8) : Option (List UInt8 × Nat) :=
  if l.head? = some 34 then (dbl l.length l.tail).map fun p => (p.1, p.2 + 1)
  else if l.head? = some 39 then (sgl l.length l.tail).map fun p => (p.1, p.2 + 1)
  else some (l.takeWhile (fun c => !blankB c), (l.takeWhile (fun c => !blankB c)).length)
/-- the words of a line: 0 and the words, or what is wrong -/
def inl : Nat → List UInt8 → List (List UInt8) → Nat × List (List UInt8)
  | 0, _, _ => (9, [])
  | f + 1, l, acc =>
    match l.dropWhile blankB with
    | [] => (0, acc)
    | c :: r =>
      if acc.length = 1024 then (1, [])
      else match tok (c :: r) with
        | none => (2, [])
        | some p =>
          if ((c :: r).drop p.2).head?.any (fun d => !blankB d) then (2, [])
          else inl f ((c :: r).drop p.2) (acc ++ [p.1])
theorem dbl_le : ∀ (f : Nat) (l : List UInt8) (p : List UInt8 × Nat), dbl f l = some p → p.2 ≤ l.length ∧ 1 ≤ p.2
  | 0, _, _, h => by cases h
  | f + 1, [], _, h => by cases h
  | f + 1, c :: r, p, h => by
    by_cases h1 : c = 34
    · subst h1
      rw [dbl_q] at h
      injection h with h
      subst h
      simp
    · by_cases h2 : c = 92
      · subst h2
        cases r with
        | nil => rw [dbl_end] at h; cases h
        | cons d r2 =>
          by_cases h3 : d = 120 ∧ two r2 = true
          · obtain ⟨rfl, h3⟩ := h3
            rw [dbl_two _ _ h3] at h
            cases hq : dbl f (r2.drop 2) with
            | none => rw [hq] at h; cases h
            | some q =>
              rw [hq] at h
              injection h with h
              subst h
              have := dbl_le f _ q hq
              have h4 : 2 ≤ r2.length := by
                match r2, h3 with
                | a :: b :: _, _ => simp
              rw [List.length_drop] at this
              simp
              omega
          · rw [dbl_esc _ _ _ h3] at h
            cases hq : dbl f r2 with
            | none => rw [hq] at h; cases h
            | some q =>
              rw [hq] at h
              injection h with h
              subst h
              have := dbl_le f _ q hq
              simp
              omega
      · rw [dbl_c _ _ _ h1 h2] at h
        cases hq : dbl f r with
        | none => rw [hq] at h; cases h
        | some q =>
          rw [hq] at h
          injection h with h
          subst h
          have := dbl_le f _ q hq
          simp
          omega
theorem sgl_le : ∀ (f : Nat) (l : List UInt8) (p : List UInt8 × Nat), sgl f l = some p → p.2 ≤ l.length ∧ 1 ≤ p.2
  | 0, _, _, h => by cases h
  | f + 1, [], _, h => by cases h
  | f + 1, c :: r, p, h => by
    by_cases h1 : c = 39
    · subst h1
      rw [sgl_q] at h
      injection h with h
      subst h
      simp
    · by_cases h2 : c = 92 ∧ r.head? = some 39
      · obtain ⟨rfl, h2⟩ := h2
        cases r with
        | nil => cases h2
        | cons d r2 =>
          obtain rfl : d = 39 := by simpa using h2
          rw [sgl_e] at h
          cases hq : sgl f r2 with
          | none => rw [hq] at h; cases h
          | some q =>
            rw [hq] at h
            injection h with h
            subst h
            have := sgl_le f _ q hq
            simp
            omega
      · rw [sgl_c _ _ _ h1 h2] at h
        cases hq : sgl f r with
        | none => rw [hq] at h; cases h
        | some q =>
          rw [hq] at h
          injection h with h
          subst h
          have := sgl_le f _ q hq
          simp
          omega
end Pl
end Go.Proofs.YtakldjdohgmeiaaDoor

namespace Go.Proofs.YtakldjdohgmeiaaDoor
open Go.RowKit
set_option maxRecDepth 20000

theorem Mm.OwnS.below {w w' : World} {b : Nat} {v : Value} {l : List (List UInt8)} (h : Mm.OwnS w b v l) (hb : Below w.heap.size w w') : Mm.OwnS w' b v l := by
  obtain ⟨hl, h0 | ⟨g, cap, cur, hv, hg, hh, r⟩⟩ := h
  · exact ⟨hl, .inl h0⟩
  · exact ⟨hl, .inr ⟨g, cap, cur, hv, hg, by rw [hb.block g (Array.getElem?_eq_some_iff.1 hh).1]; exact hh, r⟩⟩

namespace Pl
theorem inl_ok {f : Nat} {l : List UInt8} {acc ws : List (List UInt8)} (h : inl f l acc = (0, ws)) :
    (l.dropWhile blankB = [] ∧ ws = acc) ∨ ∃ (g : Nat) (p : List UInt8 × Nat), l.dropWhile blankB ≠ [] ∧ acc.length ≠ 1024 ∧ tok (l.dropWhile blankB) = some p ∧ ((l.dropWhile blankB).drop p.2).head?.any (fun d => !blankB d) = false ∧ inl g ((l.dropWhile blankB).drop p.2) (acc ++ [p.1]) = (0, ws) := by
  cases f with
  | zero => simp [inl] at h
  | succ f =>
    unfold inl at h
    cases hd : l.dropWhile blankB with
    | nil =>
      rw [hd] at h
      simp at h
      exact .inl ⟨rfl, h.symm⟩
    | cons c r =>
      rw [hd] at h
      simp only at h
      right
      by_cases h1 : acc.length = 1024
      · rw [if_pos h1] at h
        simp at h
      · rw [if_neg h1] at h
        cases ht : tok (c :: r) with
        | none =>
          rw [ht] at h
          simp at h
        | some p =>
          rw [ht] at h
          simp only at h
          cases hb : ((c :: r).drop p.2).head?.any (fun d => !blankB d) with
          | true =>
            rw [hb] at h
            simp at h
          | false =>
            rw [hb] at h
            exact ⟨f, p, by simp, h1, rfl, hb, by simpa using h⟩
def strSz : Value → Nat | .string s => s.size | _ => 0
theorem ext_drop (s : ByteArray) (n : Nat) : L (s.extract n s.size) = (L s).drop n := by
  rw [extract_B, L_B]
  unfold slc
  rw [List.take_of_length_le (by rw [List.length_drop, L_length]; exact Nat.le_refl _)]
theorem ext_take (s : ByteArray) (n : Nat) : s.extract 0 n = B ((L s).take n) := by
  rw [extract_B]
  rfl
theorem ext_size (s : ByteArray) (n : Nat) : (s.extract n s.size).size = s.size - n := by
  rw [← L_length, ext_drop, List.length_drop, L_length]
theorem drop_blank {s : ByteArray} (h : 0 < s.size) (hb : blankB (s[0]'h) = true) : (L (s.extract 1 s.size)).dropWhile blankB = (L s).dropWhile blankB := by
  rw [ext_drop]
  have h1 := drop_get s 0 h
  rw [List.drop_zero] at h1
  rw [h1, List.dropWhile_cons, if_pos hb]
  rfl
theorem drop_word {s : ByteArray} (h : 0 < s.size) (hb : blankB (s[0]'h) = false) : (L s).dropWhile blankB = L s := by
  have h1 := drop_get s 0 h
  rw [List.drop_zero] at h1
  rw [h1, List.dropWhile_cons, if_neg (by rw [hb]; decide)]
theorem tok_34 {s : ByteArray} {p : List UInt8 × Nat} (hh : (L s).head? = some 34) (h : tok (L s) = some p) : qW (dbO s) = B p.1 ∧ qN (dbO s) = (p.2 : Int) ∧ 1 ≤ p.2 ∧ p.2 ≤ s.size := by
  unfold tok at h
  rw [if_pos hh, L_length] at h
  have e : dbO s = dbl s.size (L s).tail := by
    unfold dbO
    rw [List.drop_one]
  cases hq : dbl s.size (L s).tail with
  | none => rw [hq] at h; cases h
  | some q =>
    rw [hq] at h
    injection h with h
    subst h
    have h1 := dbl_le _ _ _ hq
    have h2 := L_length s
    rw [e, hq]
    refine ⟨rfl, rfl, Nat.succ_le_succ (Nat.zero_le _), ?_⟩
    rw [List.length_tail, h2] at h1
    have h3 : 0 < s.size := by
      rcases Nat.eq_zero_or_pos s.size with h0 | h0
      · rw [List.eq_nil_of_length_eq_zero (h2.trans h0)] at hh
        cases hh
      · exact h0
    simp only
    omega
theorem tok_39 {s : ByteArray} {p : List UInt8 × Nat} (hh : (L s).head? = some 39) (h : tok (L s) = some p) : qW (sgO s) = B p.1 ∧ qN (sgO s) = (p.2 : Int) ∧ 1 ≤ p.2 ∧ p.2 ≤ s.size := by
  unfold tok at h
  rw [if_neg (by rw [hh]; decide), if_pos hh, L_length] at h
  have e : sgO s = sgl s.size (L s).tail := by
    unfold sgO
    rw [List.drop_one]
  cases hq : sgl s.size (L s).tail with
  | none => rw [hq] at h; cases h
  | some q =>
    rw [hq] at h
    injection h with h
    subst h
    have h1 := sgl_le _ _ _ hq
    have h2 := L_length s
    rw [e, hq]
    refine ⟨rfl, rfl, Nat.succ_le_succ (Nat.zero_le _), ?_⟩
    rw [List.length_tail, h2] at h1
    have h3 : 0 < s.size := by
      rcases Nat.eq_zero_or_pos s.size with h0 | h0
      · rw [List.eq_nil_of_length_eq_zero (h2.trans h0)] at hh
        cases hh
      · exact h0
    simp only
    omega
theorem take_while {l : List UInt8} {p : UInt8 → Bool} : ∀ {k : Nat}, k ≤ l.length → (∀ j, (hj : j < l.length) → j < k → p (l[j]'hj) = true) → (∀ h : k < l.length, p (l[k]'h) = false) → l.takeWhile p = l.take k := by
  induction l with
  | nil => intro k _ _ _; simp
  | cons c r ih =>
    intro k hk h1 h2
    cases k with
    | zero =>
      have := h2 (by simp)
      simp at this
      simp [this]
    | succ k =>
      have h0 := h1 0 (by simp) (by omega)
      simp at h0
      rw [List.takeWhile_cons, if_pos h0, List.take_succ_cons]
      congr 1
      refine ih (by simpa using hk) (fun j hj hjk => ?_) (fun h => ?_)
      · have := h1 (j + 1) (by simp; omega) (by omega)
        simpa using this
      · have := h2 (by simp; omega)
        simpa using this
theorem L_at (s : ByteArray) (k : Nat) (h : k < s.size) (h' : k < (L s).length) : (L s)[k]'h' = s[k]'h := by
  have h1 := get_L s k h
  rw [List.getElem?_eq_getElem h'] at h1
  injection h1
theorem tok_plain {s : ByteArray} {p : List UInt8 × Nat} {k : Nat} (h34 : (L s).head? ≠ some 34) (h39 : (L s).head? ≠ some 39) (h : tok (L s) = some p) (hk : k ≤ s.size) (h1 : ∀ j, (hj : j < s.size) → j < k → blankB (s[j]'hj) = false)
    (h2 : ∀ h : k < s.size, blankB (s[k]'h) = true) : p.2 = k ∧ B p.1 = s.extract 0 k := by
  unfold tok at h
  rw [if_neg h34, if_neg h39] at h
  have e : (L s).takeWhile (fun c => !blankB c) = (L s).take k := by
    refine take_while (by rw [L_length]; exact hk) (fun j hj hjk => ?_) (fun h => ?_)
    · have hj' : j < s.size := by rw [← L_length]; exact hj
      rw [L_at s j hj' hj, h1 j hj' hjk]
      rfl
    · have h' : k < s.size := by rw [← L_length]; exact h
      rw [L_at s k h' h, h2 h']
      rfl
  injection h with h
  subst h
  simp only
  rw [e, ext_take, List.length_take, L_length]
  exact ⟨by omega, rfl⟩
theorem head_drop {s : ByteArray} {n : Nat} (h : n < s.size) (hb : ((L s).drop n).head?.any (fun d => !blankB d) = false) : blankB (s[n]'h) = true := by
  rw [drop_get s n h] at hb
  simpa using hb
end Pl

theorem blank_byte (c : UInt8) (w : World) : Calls Tryd.prog 56 #[.int .u8 (c.toNat : Int)] w fun e w' => e = .returned (.bool (Pl.blankB c)) ∧ w = w' := by
  rw [← Pl.blank_nat]
  exact blank_walk _ w (by omega) (by have := c.toNat_lt; omega)

set_option maxHeartbeats 8000000 in
theorem inline_ok (s : ByteArray) (f0 : Nat) (ws : List (List UInt8)) (w : World) (hs : s.size ≤ 4096) (hin : Pl.inl f0 (Pl.L s) [] = (0, ws)) :
    Calls Tryd.prog 38 #[.string s] w fun e w' => ∃ v, e = .returned (.tuple #[v, .nilIface]) ∧ Mm.OwnS w' w.heap.size v ws ∧ Below w.heap.size w w' := by
  have HIN := Pl.hid hin
  clear hin
  go_enter Tryd.func38, Tryd.ntmps38
  go_wp2_with fail
  go_loopw [0, 4] (fun lv wv wr => ∃ (l : ByteArray) (f : Nat) (acc : List (List UInt8)), lv = .string l ∧ l.size ≤ 4096 ∧ Hid (Mm.OwnS wr w.heap.size wv acc) ∧ Hid (Pl.inl f (Pl.L l) acc = (0, ws)) ∧ acc.length ≤ 1024 ∧ Hid (Below w.heap.size w wr)) (fun lv _ _ => Pl.strSz lv)
  case atStart => exact ⟨s, f0, [], rfl, hs, Mm.ownS_nil _ _, HIN, by decide, Below.refl _ _⟩
  case round =>
    obtain ⟨l, f, acc, rfl, hl, HO, HQ, hacc, HB⟩ := hrel
    go_wp2_with fail
    go_loop [0] (fun mv => ∃ m : ByteArray, mv = .string m ∧ m.size ≤ l.size ∧ Hid ((Pl.L m).dropWhile Pl.blankB = (Pl.L l).dropWhile Pl.blankB)) (fun mv => Pl.strSz mv)
    case atStart => exact ⟨l, rfl, Nat.le_refl _, rfl⟩
    case round =>
      obtain ⟨m, rfl, hm, HM⟩ := hrel
      rcases Nat.eq_zero_or_pos m.size with h0 | hpos
      · obtain rfl : m = ⟨#[]⟩ := Pl.ba_ext (List.eq_nil_of_length_eq_zero (by rw [Pl.L_length]; exact h0))
        have HW : Hid (ws = acc) := by
          have hm2 := HM.out
          rw [show (Pl.L ⟨#[]⟩).dropWhile Pl.blankB = [] from rfl] at hm2
          rcases Pl.inl_ok HQ.out with ⟨_, h⟩ | ⟨_, _, h, _⟩
          · exact h
          · exact absurd hm2.symm h
        clear h0
        go_wp2_with fail
        go_ret2
        exact ⟨_, rfl, by rw [HW.out]; exact HO.out, HB.out⟩
      · have he := Pl.toL_full hpos
        cases hb : Pl.blankB (m[0]'hpos) with
        | true =>
          have HM2 := Pl.hid ((Pl.drop_blank hpos hb).trans HM.out)
          have HZ := Pl.hid (Pl.ext_size m 1)
          go_wp2_with (go_at_call 56; refine (blank_byte _ _).mono ?_; rw [hb]; rintro e w' ⟨rfl, rfl⟩)
          go_round
          case rel => exact ⟨_, rfl, by rw [HZ.out]; omega, HM2⟩
          case measure => simp only [Pl.strSz]; rw [HZ.out]; omega
        | false =>
          have HD := Pl.hid ((Pl.drop_word hpos hb).symm.trans HM.out)
          obtain ⟨av, cv, rfl, hval⟩ := HO.out.val
          have HVal := Pl.hid hval
          clear hval
          rcases Pl.inl_ok HQ.out with ⟨h, _⟩ | ⟨g, ⟨pw, n⟩, h1, h2, h3, h4, h5⟩
          · rw [← HD.out] at h
            exact absurd h (List.ne_nil_of_length_pos (by rw [Pl.L_length]; exact hpos))
          rw [← HD.out] at h3 h4 h5
          have hne : ((acc.length : Int) == 1024) = false := beq_eq_false_iff_ne.2 (by omega)
          have hacc' : acc.length < 1024 := by omega
          have H3 := Pl.hid h3
          have H4 := Pl.hid h4
          have H5 := Pl.hid h5
          have HH := Pl.hid (Pl.head_L m hpos)
          clear h1 h2 h3 h4 h5 hacc
          by_cases h34 : (m[0]'hpos).toNat = 34
          · skip
            have HT := Pl.hid (Pl.tok_34 (s := m) (by rw [HH.out]; congr 1; exact Pl.u8_is (d := 34) h34 rfl) H3.out)
            have hn1 : 1 ≤ n := HT.out.2.2.1
            have hn2 : n ≤ m.size := HT.out.2.2.2
            have HWp : Hid (Pl.L (Pl.B pw) = pw) := Pl.L_B _
            have e34 : (((m[0]'hpos).toNat : Int) == 34) = true := beq_iff_eq.2 (by omega)
            clear h34
            go_wp2_with (go_at_call 56; refine (blank_byte _ _).mono ?_; rw [hb]; rintro e w' ⟨rfl, rfl⟩)
            refine (double_walk m _ (by omega)).mono ?_
            rw [HT.out.1, HT.out.2.1]
            rintro e w1 ⟨rfl, hb1⟩
            have HO1 := Pl.hid (HO.out.below hb1)
            have HB1 := Pl.hid (HB.out.trans (hb1.mono HB.out.size))
            clear hb1
            rcases Nat.lt_or_ge n m.size with hnl | hnl
            · have hbn := Pl.head_drop hnl H4.out
              go_wp2_with (first | (go_at_call 56; refine (blank_byte _ _).mono ?_; rw [hbn]; rintro e w' ⟨rfl, rfl⟩) | (at_builtin; refine Mm.wp_app1S _ rfl _ _ (by rfl) w.heap.size _ acc (Pl.B pw) (by rfl) (by rfl) HO1.out (by omega) HB1.out.size ?_; intro v2 w2 hown2 hb2))
              have HO2 := Pl.hid hown2
              have HB2 := Pl.hid (HB1.out.trans hb2)
              clear hown2 hb2
              go_roundw
              case rel => exact ⟨_, g, acc ++ [Pl.L (Pl.B pw)], rfl, by rw [Pl.ext_size]; omega, HO2, (by show _ = _; rw [HWp.out, Pl.ext_drop]; exact H5.out), by simp; omega, HB2⟩
              case measure => simp only [Pl.strSz]; rw [Pl.ext_size]; omega
            · go_wp2_with (at_builtin; refine Mm.wp_app1S _ rfl _ _ (by rfl) w.heap.size _ acc (Pl.B pw) (by rfl) (by rfl) HO1.out (by omega) HB1.out.size ?_; intro v2 w2 hown2 hb2)
              have HO2 := Pl.hid hown2
              have HB2 := Pl.hid (HB1.out.trans hb2)
              clear hown2 hb2
              go_roundw
              case rel => exact ⟨_, g, acc ++ [Pl.L (Pl.B pw)], rfl, by rw [Pl.ext_size]; omega, HO2, (by show _ = _; rw [HWp.out, Pl.ext_drop]; exact H5.out), by simp; omega, HB2⟩
              case measure => simp only [Pl.strSz]; rw [Pl.ext_size]; omega
          · have e34 : (((m[0]'hpos).toNat : Int) == 34) = false := beq_eq_false_iff_ne.2 (by omega)
            by_cases h39 : (m[0]'hpos).toNat = 39
            · skip
              have HT := Pl.hid (Pl.tok_39 (s := m) (by rw [HH.out]; congr 1; exact Pl.u8_is (d := 39) h39 rfl) H3.out)
              have hn1 : 1 ≤ n := HT.out.2.2.1
              have hn2 : n ≤ m.size := HT.out.2.2.2
              have HWp : Hid (Pl.L (Pl.B pw) = pw) := Pl.L_B _
              have e39 : (((m[0]'hpos).toNat : Int) == 39) = true := beq_iff_eq.2 (by omega)
              clear h34 h39
              go_wp2_with (go_at_call 56; refine (blank_byte _ _).mono ?_; rw [hb]; rintro e w' ⟨rfl, rfl⟩)
              refine (single_walk m _ (by omega)).mono ?_
              rw [HT.out.1, HT.out.2.1]
              rintro e w1 ⟨rfl, hb1⟩
              have HO1 := Pl.hid (HO.out.below hb1)
              have HB1 := Pl.hid (HB.out.trans (hb1.mono HB.out.size))
              clear hb1
              rcases Nat.lt_or_ge n m.size with hnl | hnl
              · have hbn := Pl.head_drop hnl H4.out
                go_wp2_with (first | (go_at_call 56; refine (blank_byte _ _).mono ?_; rw [hbn]; rintro e w' ⟨rfl, rfl⟩) | (at_builtin; refine Mm.wp_app1S _ rfl _ _ (by rfl) w.heap.size _ acc (Pl.B pw) (by rfl) (by rfl) HO1.out (by omega) HB1.out.size ?_; intro v2 w2 hown2 hb2))
                have HO2 := Pl.hid hown2
                have HB2 := Pl.hid (HB1.out.trans hb2)
                clear hown2 hb2
                go_roundw
                case rel => exact ⟨_, g, acc ++ [Pl.L (Pl.B pw)], rfl, by rw [Pl.ext_size]; omega, HO2, (by show _ = _; rw [HWp.out, Pl.ext_drop]; exact H5.out), by simp; omega, HB2⟩
                case measure => simp only [Pl.strSz]; rw [Pl.ext_size]; omega
              · go_wp2_with (at_builtin; refine Mm.wp_app1S _ rfl _ _ (by rfl) w.heap.size _ acc (Pl.B pw) (by rfl) (by rfl) HO1.out (by omega) HB1.out.size ?_; intro v2 w2 hown2 hb2)
                have HO2 := Pl.hid hown2
                have HB2 := Pl.hid (HB1.out.trans hb2)
                clear hown2 hb2
                go_roundw
                case rel => exact ⟨_, g, acc ++ [Pl.L (Pl.B pw)], rfl, by rw [Pl.ext_size]; omega, HO2, (by show _ = _; rw [HWp.out, Pl.ext_drop]; exact H5.out), by simp; omega, HB2⟩
                case measure => simp only [Pl.strSz]; rw [Pl.ext_size]; omega
            · have e39 : (((m[0]'hpos).toNat : Int) == 39) = false := beq_eq_false_iff_ne.2 (by omega)
              have N34 : Hid ((Pl.L m).head? ≠ some 34) := fun h => h34 (by rw [HH.out] at h; injection h with h; rw [h]; rfl)
              have N39 : Hid ((Pl.L m).head? ≠ some 39) := fun h => h39 (by rw [HH.out] at h; injection h with h; rw [h]; rfl)
              clear h34 h39
              go_wp2_with (go_at_call 56; refine (blank_byte _ _).mono ?_; rw [hb]; rintro e w' ⟨rfl, rfl⟩)
              clear e34 e39 he hne
              go_loop [6] (fun nv => ∃ k : Nat, nv = .int .i64 k ∧ k ≤ m.size ∧ (k = 0 → 0 < m.size) ∧ Hid (∀ j, (hj : j < m.size) → j < k → Pl.blankB (m[j]'hj) = false)) (fun nv => m.size - (intOf nv).toNat)
              case atStart => exact ⟨0, rfl, Nat.zero_le _, fun _ => hpos, fun j hj h => by omega⟩
              case round =>
                obtain ⟨k, rfl, hk, _, HK⟩ := hrel
                rcases Nat.lt_or_ge k m.size with hkl | hkl
                · cases hbk : Pl.blankB (m[k]'hkl) with
                  | false =>
                    go_wp2_with (go_at_call 56; refine (blank_byte _ _).mono ?_; rw [hbk]; rintro e w' ⟨rfl, rfl⟩)
                    go_round
                    case rel => exact ⟨k + 1, by go_num, by omega, fun _ => hpos, fun j hj h => by
                      rcases Nat.lt_or_ge j k with h' | h'
                      · exact HK.out j hj h'
                      · obtain rfl : j = k := by omega
                        exact hbk⟩
                    case measure => simp [intOf]; omega
                  | true =>
                    have HT := Pl.hid (Pl.tok_plain N34.out N39.out H3.out hk HK.out (fun _ => hbk))
                    have hn1 : 1 ≤ k := by
                      rcases Nat.eq_zero_or_pos k with h | h
                      · subst h
                        rw [hb] at hbk
                        cases hbk
                      · exact h
                    have HWp : Hid (Pl.L (m.extract 0 k) = pw) := by
                      show _ = _
                      rw [← HT.out.2, Pl.L_B]
                    have HNK : Hid (n = k) := HT.out.1
                    rw [HNK.out] at H4 H5
                    clear hbk
                    have hnl := hkl
                    have hbn := Pl.head_drop hnl H4.out
                    go_wp2_with (first | (go_at_call 56; refine (blank_byte _ _).mono ?_; rw [hbn]; rintro e w' ⟨rfl, rfl⟩) | (at_builtin; refine Mm.wp_app1S _ rfl _ _ (by rfl) w.heap.size _ acc (m.extract 0 k) (by rfl) (by rfl) HO.out (by omega) HB.out.size ?_; intro v2 w2 hown2 hb2))
                    have HO2 := Pl.hid hown2
                    have HB2 := Pl.hid (HB.out.trans hb2)
                    clear hown2 hb2
                    go_roundw
                    case rel => exact ⟨_, g, acc ++ [Pl.L (m.extract 0 k)], rfl, by rw [Pl.ext_size]; omega, HO2, (by show _ = _; rw [HWp.out, Pl.ext_drop]; exact H5.out), by simp; omega, HB2⟩
                    case measure => simp only [Pl.strSz]; rw [Pl.ext_size]; omega
                · have HT := Pl.hid (Pl.tok_plain N34.out N39.out H3.out hk HK.out (fun h => by omega))
                  have hn1 : 1 ≤ k := by omega
                  have HWp : Hid (Pl.L (m.extract 0 k) = pw) := by
                    show _ = _
                    rw [← HT.out.2, Pl.L_B]
                  have HNK : Hid (n = k) := HT.out.1
                  rw [HNK.out] at H4 H5
                  go_wp2_with (at_builtin; refine Mm.wp_app1S _ rfl _ _ (by rfl) w.heap.size _ acc (m.extract 0 k) (by rfl) (by rfl) HO.out (by omega) HB.out.size ?_; intro v2 w2 hown2 hb2)
                  have HO2 := Pl.hid hown2
                  have HB2 := Pl.hid (HB.out.trans hb2)
                  clear hown2 hb2
                  go_roundw
                  case rel => exact ⟨_, g, acc ++ [Pl.L (m.extract 0 k)], rfl, by rw [Pl.ext_size]; omega, HO2, (by show _ = _; rw [HWp.out, Pl.ext_drop]; exact H5.out), by simp; omega, HB2⟩
                  case measure => simp only [Pl.strSz]; rw [Pl.ext_size]; omega
end Go.Proofs.YtakldjdohgmeiaaDoor

namespace Go.Proofs.YtakldjdohgmeiaaDoor
open Go.RowKit
set_option maxRecDepth 20000

namespace Mm
open Pl
/-- the bytes of a list stand at a place -/
def BytesAt (w : World) (g o : Nat) (l : List UInt8) : Prop := ∀ j, j < l.length → w.cell? ⟨g, o + j, none⟩ = some (.int .u8 (at_ l j))
theorem BytesAt.keep {w w' : World} {g o : Nat} {l : List UInt8} (h : BytesAt w g o l) (hb : w'.heap[g]? = w.heap[g]?) : BytesAt w' g o l := fun j hj => by
  rw [World.cell?_of_block (w := w) (a := ⟨g, o + j, none⟩) hb]
  exact h j hj
theorem BytesAt.lt {w : World} {g o : Nat} {l : List UInt8} (h : BytesAt w g o l) (h0 : 0 < l.length) : g < w.heap.size := World.block_lt_of_cell? _ _ (h 0 h0)
theorem OwnB.bytesAt {w : World} {b g n c : Nat} {l : List UInt8} (h : OwnB w b (.slice (some ⟨g, 0, none⟩) n c) l) : BytesAt w g 0 l := fun j hj => by
  have := h.cells (g := g) rfl j (byteV (l[j]'hj)) (by simp [bytesV, List.getElem?_eq_getElem hj])
  have e : (⟨g, 0, none⟩ : Addr).add j = ⟨g, j, none⟩ := by unfold Addr.add; split <;> simp_all
  rw [e] at this
  rw [Nat.zero_add, this]
  unfold byteV at_
  rw [List.getD_eq_getElem?_getD, List.getElem?_eq_getElem hj]
  rfl
theorem OwnB.val {w : World} {b : Nat} {v : Value} {l : List UInt8} (h : OwnB w b v l) : ∃ a c, v = .slice a l.length c ∧ (l.length = 0 ∧ a = none ∧ c = 0 ∨ ∃ g, a = some ⟨g, 0, none⟩ ∧ b ≤ g ∧ g < w.heap.size ∧ l.length ≤ c) := by
  rcases h.2 with ⟨rfl, h0⟩ | ⟨g, cap, cur, rfl, hb, hg, hle, _⟩
  · exact ⟨none, 0, by rw [h0], .inl ⟨h0, rfl, rfl⟩⟩
  · exact ⟨_, _, rfl, .inr ⟨g, rfl, hb, (Array.getElem?_eq_some_iff.1 hg).1, hle⟩⟩
theorem OwnB.keep {w w' : World} {b : Nat} {v : Value} {l : List UInt8} (h : OwnB w b v l) (hb : ∀ g, v.ownBlock = some g → w'.heap[g]? = w.heap[g]?) : OwnB w' b v l := by
  obtain ⟨hl, h0 | ⟨g, cap, cur, hv, hg, hh, r⟩⟩ := h
  · exact ⟨hl, .inl h0⟩
  · exact ⟨hl, .inr ⟨g, cap, cur, hv, hg, by rw [hb g (by rw [hv]; rfl)]; exact hh, r⟩⟩
theorem OwnS.keep {w w' : World} {b : Nat} {v : Value} {l : List (List UInt8)} (h : OwnS w b v l) (hb : ∀ g, v.ownBlock = some g → w'.heap[g]? = w.heap[g]?) : OwnS w' b v l := by
  obtain ⟨hl, h0 | ⟨g, cap, cur, hv, hg, hh, r⟩⟩ := h
  · exact ⟨hl, .inl h0⟩
  · exact ⟨hl, .inr ⟨g, cap, cur, hv, hg, by rw [hb g (by rw [hv]; rfl)]; exact hh, r⟩⟩

/-- 'append(s, b...)': bytes at a place behind an owned row -/
theorem wp_appB {ops : Array Oper} {rest : List Oper} {o : Oper} {a : Act} {Q : Exit → Act → World → Prop} (w : World) (hgd : o.guard = none) (x y : Operand)
    (ho : o.op = .call { callee := .builtin .append, args := #[x, y], argTypes := #[24, 24] })
    (base : Nat) (v : Value) (l : List UInt8) (hx : a.eval x = v) (h : OwnB w base v l) (g off c : Nat) (m : List UInt8) (n : Nat) (hn : n = m.length) (hy : a.eval y = .slice (some ⟨g, off, none⟩) n c) (hm : BytesAt w g off m)
    (hl : l.length + m.length ≤ 140737488355328) (hbase : base ≤ w.heap.size)
    (hK : ∀ v' w', OwnB w' base v' (l ++ m) → w.grownBy w' v.ownBlock → wpList Tryd.prog ops Q rest (a.put o.dst v') w') :
    wpList Tryd.prog ops Q (o :: rest) a w := by
  subst hn
  obtain ⟨i0, hi, hz0, hz1, hz2⟩ := info_parts Tryd.info_u8
  refine wpList_append_own _ hgd x y 24 ho base 5 i0 (.int .u8 0) 1 1 Tryd.underlying24 hi hz0 hz1 hz2 rfl (by decide) v l.length (bytesV l) hx h ⟨g, off, none⟩ m.length c (bytesV m) hy (by simp [bytesV]) ?_ (bytesV_one m) ?_ (by omega) hbase ?_
  · intro j u hj
    have hj' : j < m.length := by
      have := (List.getElem?_eq_some_iff.1 hj).1
      simpa [bytesV] using this
    have e : (⟨g, off, none⟩ : Addr).add j = ⟨g, off + j, none⟩ := by unfold Addr.add; split <;> simp_all
    rw [e, hm j hj']
    simp only [bytesV, List.getElem?_map, List.getElem?_eq_getElem hj', Option.map_some, Option.some.injEq] at hj
    rw [← hj]
    unfold at_ byteV
    rw [List.getD_eq_getElem?_getD, List.getElem?_eq_getElem hj']
    rfl
  · unfold maxLen; omega
  · intro v' w' h1 h2 _
    refine hK v' w' ?_ h2
    unfold OwnB
    rw [bytesV_append, List.length_append]
    exact h1

/-- a store into one cell of a block -/
theorem wp_storeF {ops : Array Oper} {rest : List Oper} {op : Oper} {a : Act} {Q : Exit → Act → World → Prop} (w : World) (hgd : op.guard = none) (t : TypeId) (x y : Operand) (ho : op.op = .store t x y)
    (hsz : (Tryd.prog.info? t).map (·.size) = some 1) (p i : Nat) (T : TypeId) (cs : Array Value) (v : Value) (h : w.heap[p]? = some (.cells cs T (0, 0))) (hx : a.eval x = .pointer (some ⟨p, i, none⟩)) (hy : a.eval y = v) (hi : i < cs.size) (hv : v.cells = #[v]) (h1 : v.oneCell' = true)
    (hK : ∀ w', w'.heap[p]? = some (.cells (cs.setIfInBounds i v) T (0, 0)) → w'.heap.size = w.heap.size → w.grownBy w' (some p) → wpList Tryd.prog ops Q rest (a.put op.dst undef) w') : wpList Tryd.prog ops Q (op :: rest) a w := by
  refine wpList_plain hgd fun K hK' => ?_
  obtain ⟨i0, hi0, hz1⟩ := Option.map_eq_some_iff.1 hsz
  have hst := run_storeCells_at Tryd.prog p i T [v] 0 _ w h (by simp; omega) (by intro u hu; simp at hu; subst hu; exact h1)
  have hrun : (Instr.storeAt t (.pointer (some ⟨p, i, none⟩)) v).run Tryd.prog w =
      .ok () (w.setRow p (cs.toList.take i ++ [v] ++ cs.toList.drop (i + 1)).toArray) := by
    simp only [Nat.add_zero] at hst
    simp [Instr.storeAt, Instr.sureAddr, storeVar, sizeOf, typeInfo, hi0, hz1, hv]
    rw [hst]
    simp
  unfold Oper.wp execOp
  simp only [ho, hx, hy, Sem.run_bind, Sem.run_pure, Result.andThen_ok, hrun]
  refine hK' _ _ (hK _ ?_ (by simp [World.setRow]) ⟨rfl, rfl, rfl, by simp [World.setRow], fun k _ hk => setRow_other w p k _ (fun e => hk (by rw [e]))⟩)
  rw [setRow_heap w p _ _ _ _ h]
  congr 2
  apply Array.ext'
  rw [Array.toList_setIfInBounds]
  rw [List.set_eq_take_append_cons_drop]
  simp [hi]
end Mm
end Go.Proofs.YtakldjdohgmeiaaDoor

namespace Go.Proofs.YtakldjdohgmeiaaDoor
open Go.RowKit
set_option maxRecDepth 20000

/-- a reply: its kind, text, number, list -/
inductive RT where
  | mk (k : Int) (s : ByteArray) (n : Int) (l : List RT)

namespace RT
theorem ind {P : RT → Prop} (h : ∀ k s n l, (∀ x ∈ l, P x) → P (.mk k s n l)) (t : RT) : P t :=
  RT.rec (motive_1 := P) (motive_2 := fun l => ∀ x ∈ l, P x) (fun k s n l ih => h k s n l ih) (fun x hx => by cases hx)
    (fun a l ha hl x hx => by
      rcases List.mem_cons.1 hx with rfl | hx
      · exact ha
      · exact hl x hx) t
mutual
/-- a bound for a reply's bytes -/
def sz : RT → Nat
  | .mk _ s _ l => s.size + 25 + szL l
def szL : List RT → Nat
  | [] => 0
  | t :: ts => sz t + szL ts
end
theorem szL_append : ∀ (a b : List RT), szL (a ++ b) = szL a + szL b
  | [], b => by simp [szL]
  | x :: a, b => by simp [szL, szL_append a b, Nat.add_assoc]
theorem sz_mk (k : Int) (s : ByteArray) (n : Int) (l : List RT) : sz (.mk k s n l) = s.size + 25 + szL l := by simp [sz]
theorem szL_snoc (a : List RT) (t : RT) : szL (a ++ [t]) = szL a + sz t := by simp [szL_append, szL]
theorem sz_pos (t : RT) : 25 ≤ sz t := by cases t; rw [sz_mk]; omega
theorem szL_mem : ∀ {l : List RT} {t : RT}, t ∈ l → sz t ≤ szL l
  | x :: l, t, h => by
    rcases List.mem_cons.1 h with rfl | h
    · simp [szL]
    · have := szL_mem h
      simp only [szL]
      omega
theorem szL_len : ∀ l : List RT, 25 * l.length ≤ szL l
  | [] => by simp [szL]
  | t :: ts => by
    have := szL_len ts
    have := sz_pos t
    simp only [szL, List.length_cons]
    omega
end RT

namespace Mm
open Pl
theorem Tryd.info_rep : (Tryd.prog.info? 31).map (fun i => (i.zero, i.size, i.bytes)) = some (some (.agg #[.int .i64 0, .string ⟨#[]⟩, .int .i64 0, .slice none 0 0]), 4, 56) := by kernel_rfl

theorem Tryd.info_rl : (Tryd.prog.info? 29).map (·.size) = some 1 := by kernel_rfl
mutual
/-- four cells are a reply; the blocks of its lists -/
inductive RepB (w : World) : RT → List Value → List Nat → Prop
  | mk (k : Int) (s : ByteArray) (n : Int) (l : List RT) (v : Value) (xs : List Value) (bs : List Nat) (hown : w.ownsRow 0 31 4 v l.length xs) (hr : RowB w l xs bs) :
      RepB w (.mk k s n l) [.int .i64 k, .string s, .int .i64 n, v] (v.ownBlock.toList ++ bs)
/-- cells are a row of replies -/
inductive RowB (w : World) : List RT → List Value → List Nat → Prop
  | nil : RowB w [] [] []
  | cons (t : RT) (ts : List RT) (cs xs : List Value) (bs bs' : List Nat) (h : RepB w t cs bs) (hr : RowB w ts xs bs') : RowB w (t :: ts) (cs ++ xs) (bs ++ bs')
end

theorem RepB.four {w : World} {t : RT} {cs : List Value} {bs : List Nat} (h : RepB w t cs bs) : ∃ c0 c1 c2 c3, cs = [c0, c1, c2, c3] ∧ ∀ u ∈ cs, u.oneCell' = true := by
  cases h with
  | mk k s n l v xs bs hown hr =>
    refine ⟨_, _, _, _, rfl, ?_⟩
    intro u hu
    simp only [List.mem_cons, List.mem_nil_iff, or_false] at hu
    rcases hu with rfl | rfl | rfl | rfl
    · rfl
    · rfl
    · rfl
    · rcases hown.2 with ⟨rfl, _⟩ | ⟨g, cap, cur, rfl, _⟩ <;> rfl

theorem ownsRowR_keep {w w' : World} {b : Nat} {e : TypeId} {z n : Nat} {v : Value} {xs : List Value} (h : w.ownsRow b e z v n xs) (hb : ∀ g, v.ownBlock = some g → w'.heap[g]? = w.heap[g]?) : w'.ownsRow b e z v n xs := by
  obtain ⟨hl, h0 | ⟨g, cap, cur, hv, hg, hh, r⟩⟩ := h
  · exact ⟨hl, .inl h0⟩
  · exact ⟨hl, .inr ⟨g, cap, cur, hv, hg, by rw [hb g (by rw [hv]; rfl)]; exact hh, r⟩⟩

mutual
theorem RepB.keep {w w' : World} : ∀ {t : RT} {cs : List Value} {bs : List Nat}, RepB w t cs bs → (∀ g ∈ bs, w'.heap[g]? = w.heap[g]?) → RepB w' t cs bs
  | _, _, _, .mk k s n l v xs bs hown hr, hb => .mk k s n l v xs bs (ownsRowR_keep hown fun g hg => hb g (by simp [hg])) (RowB.keep hr fun g hg => hb g (by simp [hg]))
theorem RowB.keep {w w' : World} : ∀ {ts : List RT} {xs : List Value} {bs : List Nat}, RowB w ts xs bs → (∀ g ∈ bs, w'.heap[g]? = w.heap[g]?) → RowB w' ts xs bs
  | _, _, _, .nil, _ => .nil
  | _, _, _, .cons t ts cs xs bs bs' h hr, hb => .cons t ts cs xs bs bs' (RepB.keep h fun g hg => hb g (by simp [hg])) (RowB.keep hr fun g hg => hb g (by simp [hg]))
end

theorem ownsRow_lt {w : World} {b : Nat} {e : TypeId} {z n : Nat} {v : Value} {xs : List Value} (h : w.ownsRow b e z v n xs) {g : Nat} (hg : v.ownBlock = some g) : g < w.heap.size := by
  obtain ⟨hl, ⟨rfl, _⟩ | ⟨g', cap, cur, rfl, _, hh, _⟩⟩ := h
  · cases hg
  · cases hg
    exact (Array.getElem?_eq_some_iff.1 hh).1

mutual
theorem RepB.lt {w : World} : ∀ {t : RT} {cs : List Value} {bs : List Nat}, RepB w t cs bs → ∀ g ∈ bs, g < w.heap.size
  | _, _, _, .mk k s n l v xs bs hown hr, g, hg => by
    rcases List.mem_append.1 hg with hg | hg
    · exact ownsRow_lt hown (by simpa using hg)
    · exact RowB.lt hr g hg
theorem RowB.lt {w : World} : ∀ {ts : List RT} {xs : List Value} {bs : List Nat}, RowB w ts xs bs → ∀ g ∈ bs, g < w.heap.size
  | _, _, _, .nil, g, hg => by cases hg
  | _, _, _, .cons t ts cs xs bs bs' h hr, g, hg => by
    rcases List.mem_append.1 hg with hg | hg
    · exact RepB.lt h g hg
    · exact RowB.lt hr g hg
end

theorem RowB.snoc {w : World} {t : RT} {cs : List Value} {bs' : List Nat} (h : RepB w t cs bs') : ∀ {ts : List RT} {xs : List Value} {bs : List Nat}, RowB w ts xs bs → RowB w (ts ++ [t]) (xs ++ cs) (bs ++ bs')
  | _, _, _, .nil => by
    have := RowB.cons t [] cs [] bs' [] h .nil
    simpa using this
  | _, _, _, .cons t0 ts cs0 xs bs0 bs1 h0 hr => by
    have := RowB.cons t0 _ cs0 _ bs0 _ h0 (RowB.snoc h hr)
    simpa using this

theorem RowB.at {w : World} : ∀ {ts : List RT} {xs : List Value} {bs : List Nat}, RowB w ts xs bs → ∀ (i : Nat) (hi : i < ts.length),
    ∃ c0 c1 c2 c3 bs', xs[i * 4]? = some c0 ∧ xs[i * 4 + 1]? = some c1 ∧ xs[i * 4 + 2]? = some c2 ∧ xs[i * 4 + 3]? = some c3 ∧ RepB w (ts[i]'hi) [c0, c1, c2, c3] bs' ∧ ∀ g ∈ bs', g ∈ bs
  | _, _, _, .nil, i, hi => by simp at hi
  | _, _, _, .cons t ts cs xs bs bs' h hr, i, hi => by
    obtain ⟨c0, c1, c2, c3, rfl, _⟩ := h.four
    cases i with
    | zero => exact ⟨c0, c1, c2, c3, bs, rfl, rfl, rfl, rfl, h, fun g hg => by simp [hg]⟩
    | succ i =>
      obtain ⟨d0, d1, d2, d3, bs1, e0, e1, e2, e3, h1, h2⟩ := RowB.at hr i (by simpa using hi)
      refine ⟨d0, d1, d2, d3, bs1, ?_, ?_, ?_, ?_, h1, fun g hg => by simp [h2 g hg]⟩ <;>
        (rw [show (i + 1) * 4 = i * 4 + 4 by omega]; simpa [Nat.add_right_comm] using (by assumption))

/-- a reply that can be read -/
def RepX (w : World) (t : RT) (cs : List Value) : Prop := ∃ bs, RepB w t cs bs
theorem RepX.keep {w w' : World} {t : RT} {cs : List Value} (h : RepX w t cs) (hb : Below w.heap.size w w') : RepX w' t cs := by
  obtain ⟨bs, h⟩ := h
  exact ⟨bs, h.keep fun g hg => hb.block g (h.lt g hg)⟩
theorem RepX.one {w : World} {t : RT} {cs : List Value} (h : RepX w t cs) : ∀ u ∈ cs, u.oneCell' = true := by
  obtain ⟨bs, h⟩ := h
  obtain ⟨_, _, _, _, _, h⟩ := h.four
  exact h
/-- a reply, opened -/
theorem RepX.open {w : World} {k : Int} {s : ByteArray} {n : Int} {l : List RT} {cs : List Value} (h : RepX w (.mk k s n l) cs) :
    ∃ (a : Option Addr) (cap : Nat), cs = [.int .i64 k, .string s, .int .i64 n, .slice a l.length cap] ∧ (l.length = 0 ∨ ∃ b, a = some ⟨b, 0, none⟩ ∧ b < w.heap.size ∧
      ∀ i (hi : i < l.length), ∃ c0 c1 c2 c3, w.cell? ⟨b, i * 4, none⟩ = some c0 ∧ w.cell? ⟨b, i * 4 + 1, none⟩ = some c1 ∧ w.cell? ⟨b, i * 4 + 2, none⟩ = some c2 ∧ w.cell? ⟨b, i * 4 + 3, none⟩ = some c3 ∧ RepX w (l[i]'hi) [c0, c1, c2, c3]) := by
  obtain ⟨bs, h⟩ := h
  cases h with
  | mk k s n l v xs bs hown hr =>
    rcases hown.2 with ⟨rfl, h0⟩ | ⟨g, cap, cur, rfl, _, hh, hle, hm, hc, ht⟩
    · exact ⟨none, 0, by rw [h0], .inl h0⟩
    · refine ⟨_, _, rfl, .inr ⟨g, rfl, (Array.getElem?_eq_some_iff.1 hh).1, fun i hi => ?_⟩⟩
      obtain ⟨c0, c1, c2, c3, bs', e0, e1, e2, e3, h1, _⟩ := hr.at i hi
      have key : ∀ j u, xs[j]? = some u → w.cell? ⟨g, j, none⟩ = some u := by
        intro j u hj
        rw [← ht] at hj
        have hlt := (List.getElem?_eq_some_iff.1 hj).1
        rw [List.length_take] at hlt
        rw [List.getElem?_take_of_lt (by omega)] at hj
        unfold World.cell?
        rw [hh]
        simpa using hj
      exact ⟨c0, c1, c2, c3, key _ _ e0, key _ _ e1, key _ _ e2, key _ _ e3, bs', h1⟩

/-- a row of replies in blocks of one's own -/
def OwnL (w : World) (lo : Nat) (v : Value) (ts : List RT) : Prop :=
  ∃ xs bs, w.ownsRow 0 31 4 v ts.length xs ∧ RowB w ts xs bs ∧ (v.ownBlock.toList ++ bs).Nodup ∧ ∀ g ∈ v.ownBlock.toList ++ bs, lo ≤ g
/-- a reply in blocks of one's own -/
def OwnT (w : World) (lo : Nat) (t : RT) (cs : List Value) : Prop := ∃ bs, RepB w t cs bs ∧ bs.Nodup ∧ ∀ g ∈ bs, lo ≤ g

theorem OwnL.nil (w : World) (lo : Nat) : OwnL w lo (.slice none 0 0) [] := ⟨[], [], ⟨rfl, .inl ⟨rfl, rfl⟩⟩, .nil, by simp [Value.ownBlock], by simp [Value.ownBlock]⟩
theorem OwnL.rep {w : World} {lo : Nat} {v : Value} {ts : List RT} (h : OwnL w lo v ts) (k : Int) (s : ByteArray) (n : Int) : OwnT w lo (.mk k s n ts) [.int .i64 k, .string s, .int .i64 n, v] := by
  obtain ⟨xs, bs, h1, h2, h3, h4⟩ := h
  exact ⟨_, .mk k s n ts v xs bs h1 h2, h3, h4⟩
theorem OwnT.list {w : World} {lo : Nat} {k : Int} {s : ByteArray} {n : Int} {l : List RT} {cs : List Value} (h : OwnT w lo (.mk k s n l) cs) : ∃ v, cs = [.int .i64 k, .string s, .int .i64 n, v] ∧ OwnL w lo v l := by
  obtain ⟨bs, h1, h2, h3⟩ := h
  cases h1 with
  | mk k s n l v xs bs hown hr => exact ⟨v, rfl, xs, bs, hown, hr, h2, h3⟩
theorem OwnT.x {w : World} {lo : Nat} {t : RT} {cs : List Value} (h : OwnT w lo t cs) : RepX w t cs := ⟨h.choose, h.choose_spec.1⟩
theorem OwnT.below {w w' : World} {lo : Nat} {t : RT} {cs : List Value} (h : OwnT w lo t cs) (hb : Below w.heap.size w w') : OwnT w' lo t cs := by
  obtain ⟨bs, h1, h2, h3⟩ := h
  exact ⟨bs, h1.keep fun g hg => hb.block g (h1.lt g hg), h2, h3⟩
theorem OwnT.lo {w : World} {lo lo' : Nat} {t : RT} {cs : List Value} (h : OwnT w lo t cs) (hl : lo' ≤ lo) : OwnT w lo' t cs := by
  obtain ⟨bs, h1, h2, h3⟩ := h
  exact ⟨bs, h1, h2, fun g hg => Nat.le_trans hl (h3 g hg)⟩
theorem OwnL.below {w w' : World} {lo : Nat} {v : Value} {ts : List RT} (h : OwnL w lo v ts) (hb : Below w.heap.size w w') : OwnL w' lo v ts := by
  obtain ⟨xs, bs, h1, h2, h3, h4⟩ := h
  exact ⟨xs, bs, ownsRowR_keep h1 fun g hg => hb.block g (ownsRow_lt h1 hg), h2.keep fun g hg => hb.block g (h2.lt g hg), h3, h4⟩
theorem OwnT.keepLo {w w' : World} {lo : Nat} {t : RT} {cs : List Value} (h : OwnT w lo t cs) (hb : ∀ g, lo ≤ g → g < w.heap.size → w'.heap[g]? = w.heap[g]?) : OwnT w' lo t cs := by
  obtain ⟨bs, h1, h2, h3⟩ := h
  exact ⟨bs, h1.keep fun g hg => hb g (h3 g hg) (h1.lt g hg), h2, h3⟩
theorem OwnL.keepLo {w w' : World} {lo : Nat} {v : Value} {ts : List RT} (h : OwnL w lo v ts) (hb : ∀ g, lo ≤ g → g < w.heap.size → w'.heap[g]? = w.heap[g]?) : OwnL w' lo v ts := by
  obtain ⟨xs, bs, h1, h2, h3, h4⟩ := h
  exact ⟨xs, bs, ownsRowR_keep h1 fun g hg => hb g (h4 g (by simp [hg])) (ownsRow_lt h1 hg), h2.keep fun g hg => hb g (h4 g (by simp [hg])) (h2.lt g hg), h3, h4⟩
theorem OwnL.one {w : World} {lo : Nat} {v : Value} {ts : List RT} (h : OwnL w lo v ts) : v.oneCell' = true ∧ v.cells = #[v] := by
  obtain ⟨xs, bs, h1, _⟩ := h
  rcases h1.2 with ⟨rfl, h0⟩ | ⟨g, cap, cur, rfl, _⟩ <;> exact ⟨rfl, rfl⟩
theorem OwnT.one {w : World} {lo : Nat} {t : RT} {cs : List Value} (h : OwnT w lo t cs) : ∀ u ∈ cs, u.oneCell' = true := by
  obtain ⟨bs, h1, _⟩ := h
  obtain ⟨_, _, _, _, _, h⟩ := h1.four
  exact h
theorem cell_of {w : World} {p i : Nat} {cs : Array Value} {T : TypeId} {z : Nat × Nat} {v : Value} (h : w.heap[p]? = some (.cells cs T z)) (hi : cs[i]? = some v) : w.cell? ⟨p, i, none⟩ = some v := by
  unfold World.cell?
  rw [h]
  exact hi
theorem heap_set {w : World} {p : Nat} {cs : Array Value} {T : TypeId} {z : Nat × Nat} (h : w.heap[p]? = some (.cells cs T z)) (i : Nat) (u : Value) : (w.setCell ⟨p, i, none⟩ u).heap[p]? = some (.cells (cs.setIfInBounds i u) T z) := by
  simp [World.setCell, Array.getElem?_modify, h]
theorem grown_set (w : World) (p i : Nat) (u : Value) : w.grownBy (w.setCell ⟨p, i, none⟩ u) (some p) :=
  ⟨rfl, rfl, rfl, by simp [World.setCell], fun k _ hk => Below.heap_setCell w _ u k (fun e => hk (by rw [e]))⟩
theorem frozen_of {w : World} {p i : Nat} {cs : Array Value} {T : TypeId} (h : w.heap[p]? = some (.cells cs T (0, 0))) : w.frozen? ⟨p, i, none⟩ = false := by
  simp [World.frozen?, h]
theorem undrew {B : Nat} {w w' : World} (h : Below B w.drew w') : Below B w w' := ⟨h.os, h.tape, h.output, h.size, h.block⟩
/-- the results of a function whose first result is a reply in memory -/
theorem res_cell_tmp {fn : Func} {p u : Tmp} (h : fn.results = #[.cell p 31, .tmp u]) (tmps : Array Value) (w : World) (g : Nat) (T : TypeId) (c0 c1 c2 c3 : Value) (fr : Nat × Nat)
    (hp : tmps.getD p undef = .pointer (some ⟨g, 0, none⟩)) (hg : w.heap[g]? = some (.cells #[c0, c1, c2, c3] T fr)) :
    (results fn tmps).run Tryd.prog w = .ok (.tuple #[.agg #[c0, c1, c2, c3], tmps.getD u undef]) w := by
  obtain ⟨i0, hi, hz0, hz1, hz2⟩ := info_parts Tryd.info_rep
  rw [results_cell_tmp h, hp]
  simp only [asAddr]
  simp [run_loadVar_row w g T 31 _ fr _ hg Tryd.underlying31 rfl (by rw [hi]; simp [hz1])]
/-- the result of a function whose result is a reply in memory -/
theorem res_cell {fn : Func} {p : Tmp} (h : fn.results = #[.cell p 31]) (tmps : Array Value) (w : World) (g : Nat) (T : TypeId) (c0 c1 c2 c3 : Value) (fr : Nat × Nat)
    (hp : tmps.getD p undef = .pointer (some ⟨g, 0, none⟩)) (hg : w.heap[g]? = some (.cells #[c0, c1, c2, c3] T fr)) :
    (results fn tmps).run Tryd.prog w = .ok (.agg #[c0, c1, c2, c3]) w := by
  obtain ⟨i0, hi, hz0, hz1, hz2⟩ := info_parts Tryd.info_rep
  exact results_cell_row h tmps w g T _ fr _ hp hg Tryd.underlying31 rfl (by rw [hi]; simp [hz1])
theorem OwnL.val {w : World} {lo : Nat} {v : Value} {ts : List RT} (h : OwnL w lo v ts) : ∃ a cap, v = .slice a ts.length cap := by
  obtain ⟨xs, bs, h1, _⟩ := h
  rcases h1.2 with ⟨rfl, h0⟩ | ⟨g, cap, cur, rfl, _⟩
  · exact ⟨none, 0, by rw [h0]⟩
  · exact ⟨_, _, rfl⟩

/-- a store of a whole reply into a block of four cells -/
theorem wp_store4 {ops : Array Oper} {rest : List Oper} {op : Oper} {a : Act} {Q : Exit → Act → World → Prop} (w : World) (hgd : op.guard = none) (x y : Operand) (ho : op.op = .store 31 x y)
    (p : Nat) (T : TypeId) (cs : Array Value) (c0 c1 c2 c3 : Value) (h : w.heap[p]? = some (.cells cs T (0, 0))) (hcs : cs.size = 4) (hx : a.eval x = .pointer (some ⟨p, 0, none⟩)) (hy : a.eval y = .agg #[c0, c1, c2, c3]) (h1 : ∀ u ∈ [c0, c1, c2, c3], u.oneCell' = true)
    (hK : ∀ w', w'.heap[p]? = some (.cells #[c0, c1, c2, c3] T (0, 0)) → w'.heap.size = w.heap.size → w.grownBy w' (some p) → wpList Tryd.prog ops Q rest (a.put op.dst undef) w') : wpList Tryd.prog ops Q (op :: rest) a w := by
  refine wpList_plain hgd fun K hK' => ?_
  obtain ⟨i0, hi0, hz0, hz1, hz2⟩ := info_parts Tryd.info_rep
  have hst := run_storeCells_at Tryd.prog p 0 T [c0, c1, c2, c3] 0 _ w h (by simp; omega) h1
  have hrun : (Instr.storeAt 31 (.pointer (some ⟨p, 0, none⟩)) (.agg #[c0, c1, c2, c3])).run Tryd.prog w =
      .ok () (w.setRow p (cs.toList.take 0 ++ [c0, c1, c2, c3] ++ cs.toList.drop (0 + 4)).toArray) := by
    simp only [Nat.add_zero] at hst
    simp [Instr.storeAt, Instr.sureAddr, storeVar, sizeOf, typeInfo, hi0, hz1, Value.cells]
    simpa using hst
  unfold Oper.wp execOp
  simp only [ho, hx, hy, Sem.run_bind, Sem.run_pure, Result.andThen_ok, hrun]
  refine hK' _ _ (hK _ ?_ (by simp [World.setRow]) ⟨rfl, rfl, rfl, by simp [World.setRow], fun k _ hk => setRow_other w p k _ (fun e => hk (by rw [e]))⟩)
  rw [setRow_heap w p _ _ _ _ h]
  congr 2
  apply Array.ext'
  have : cs.toList.drop 4 = [] := List.drop_eq_nil_iff.2 (by simp [hcs])
  simp [this]

/-- 'append(l, x)': one more reply, which was made behind the row -/
theorem run_appR (w : World) (ty : TypeId) (w0 w1 : World) (lo : Nat) (v : Value) (ts : List RT) (h : OwnL w0 lo v ts) (t : RT) (cs : List Value) (ht : OwnT w1 w0.heap.size t cs)
    (hw : w = w1.alloc (.cells cs.toArray 31)) (hb : Below w0.heap.size w0 w1) (hl : ts.length < 1073741824) (hlo : lo ≤ w0.heap.size) :
    ∃ v' w', (Builtin.append_ #[29, 29] ty #[v, .slice (some ⟨w1.heap.size, 0, none⟩) 1 1]).run Tryd.prog w = .ok v' w' ∧ OwnL w' lo v' (ts ++ [t]) ∧ Below lo w1 w' ∧ w.grownBy w' v.ownBlock := by
  obtain ⟨i0, hi, hz0, hz1, hz2⟩ := info_parts Tryd.info_rep
  have hb1 : Below w1.heap.size w1 w := by rw [hw]; exact (Below.refl _ _).alloc (Nat.le_refl _) _
  have hs : w.heap.size = w1.heap.size + 1 := by rw [hw]; simp
  obtain ⟨xs0, bs0, g1, g2, g3, g4⟩ := h
  obtain ⟨bt, t1, t2, t3⟩ := ht
  obtain ⟨c0, c1, c2, c3, rfl, hone⟩ := t1.four
  have k1 := ownsRowR_keep g1 (w' := w) fun g hg => (hb.trans (hb1.mono hb.size)).block g (ownsRow_lt g1 hg)
  have k2 := g2.keep (w' := w) fun g hg => (hb.trans (hb1.mono hb.size)).block g (g2.lt g hg)
  have kt := t1.keep (w' := w) fun g hg => hb1.block g (t1.lt g hg)
  obtain ⟨v', w', hr, r1, r2, _, r4⟩ := run_append_own_at (P := Tryd.prog) w 0 29 ty 31 i0 (.agg #[.int .i64 0, .string ⟨#[]⟩, .int .i64 0, .slice none 0 0]) 4 56 Tryd.underlying29 hi hz0 hz1 hz2 rfl (by decide) v ts.length xs0 k1 ⟨w1.heap.size, 0, none⟩ 1 1 [c0, c1, c2, c3] rfl
    (by
      intro j u hj
      have e : (⟨w1.heap.size, 0, none⟩ : Addr).add j = ⟨w1.heap.size, j, none⟩ := by unfold Addr.add; split <;> simp_all
      rw [e, hw, World.cell?_alloc_mark]
      simpa using hj) hone (by unfold maxLen; omega) (by omega) (Nat.zero_le _)
  have hlt : ∀ g ∈ v.ownBlock.toList ++ bs0, g < w0.heap.size := by
    intro g hg
    rcases List.mem_append.1 hg with hg | hg
    · exact ownsRow_lt g1 (by simpa using hg)
    · exact g2.lt g hg
  have hsz0 : w0.heap.size ≤ w1.heap.size := hb.size
  have far : ∀ g, g ∈ bs0 ++ bt → w'.heap[g]? = w.heap[g]? := by
    intro g hg
    have hgl : g < w.heap.size := by
      rcases List.mem_append.1 hg with hg | hg
      · exact k2.lt g hg
      · exact kt.lt g hg
    refine r2.block g hgl fun e => ?_
    have hv : g ∈ v.ownBlock.toList := by rw [← e]; simp
    rcases List.mem_append.1 hg with hg | hg
    · exact (List.nodup_append.1 g3).2.2 g hv g hg rfl
    · have := t3 g hg
      have := hlt g (by simp [hv])
      omega
  refine ⟨v', w', hr, ⟨xs0 ++ [c0, c1, c2, c3], bs0 ++ bt, by rw [List.length_append]; exact r1, (RowB.snoc kt k2).keep fun g hg => far g hg, ?_, ?_⟩, ?_, r2⟩
  · have hn : (bs0 ++ bt).Nodup := List.nodup_append.2 ⟨(List.nodup_append.1 g3).2.1, t2, fun a ha b hb' e => by
      have := hlt a (by simp [ha])
      have := t3 b hb'
      omega⟩
    refine List.nodup_append.2 ⟨by cases v'.ownBlock <;> simp, hn, fun a ha b hb' e => ?_⟩
    subst e
    rcases r4 with e | e
    · rw [e] at ha
      rcases List.mem_append.1 hb' with hb' | hb'
      · exact (List.nodup_append.1 g3).2.2 a ha a hb' rfl
      · have := hlt a (by simp [ha])
        have := t3 a hb'
        omega
    · rw [e] at ha
      simp at ha
      rcases List.mem_append.1 hb' with hb' | hb'
      · have := hlt a (by simp [hb'])
        omega
      · have := t1.lt a hb'
        omega
  · intro g hg
    rcases List.mem_append.1 hg with hg | hg
    · rcases r4 with e | e
      · rw [e] at hg
        exact g4 g (by simp [hg])
      · rw [e] at hg
        simp at hg
        omega
    · rcases List.mem_append.1 hg with hg | hg
      · exact g4 g (by simp [hg])
      · have := t3 g hg
        omega
  · exact (hb1.mono (by omega)).grown r2 (by omega) fun k hk => g4 k (by simp [hk])

theorem wp0_appR {o : Oper} {a : Act} {K : Act → World → Prop} {Q : Exit → Act → World → Prop} (w : World) (x y : Operand)
    (ho : o.op = .call { callee := .builtin .append, args := #[x, y], argTypes := #[29, 29] })
    (w0 w1 : World) (lo : Nat) (v : Value) (ts : List RT) (hx : a.eval x = v) (h : OwnL w0 lo v ts) (t : RT) (cs : List Value) (ht : OwnT w1 w0.heap.size t cs)
    (hy : a.eval y = .slice (some ⟨w1.heap.size, 0, none⟩) 1 1) (hw : w = w1.alloc (.cells cs.toArray 31)) (hb : Below w0.heap.size w0 w1) (hl : ts.length < 1073741824) (hlo : lo ≤ w0.heap.size)
    (hK : ∀ v' w', OwnL w' lo v' (ts ++ [t]) → Below lo w1 w' → w.grownBy w' v.ownBlock → K (a.put o.dst v') w') : o.wp Tryd.prog a w K Q := by
  obtain ⟨v', w', hr, h2, h3, h4⟩ := run_appR w o.type w0 w1 lo v ts h t cs ht hw hb hl hlo
  unfold Oper.wp execOp
  simp only [ho, resolve, invoke, builtin, Sem.run_bind, Sem.run_pure, Result.andThen_ok, List.map_toArray, List.map_cons, List.map_nil, hx, hy, hr]
  exact hK v' w' h2 h3 h4
/-- in a plain region -/
theorem wp_appR {ops : Array Oper} {rest : List Oper} {o : Oper} {a : Act} {Q : Exit → Act → World → Prop} (w : World) (hgd : o.guard = none) (x y : Operand)
    (ho : o.op = .call { callee := .builtin .append, args := #[x, y], argTypes := #[29, 29] })
    (w0 w1 : World) (lo : Nat) (v : Value) (ts : List RT) (hx : a.eval x = v) (h : OwnL w0 lo v ts) (t : RT) (cs : List Value) (ht : OwnT w1 w0.heap.size t cs)
    (hy : a.eval y = .slice (some ⟨w1.heap.size, 0, none⟩) 1 1) (hw : w = w1.alloc (.cells cs.toArray 31)) (hb : Below w0.heap.size w0 w1) (hl : ts.length < 1073741824) (hlo : lo ≤ w0.heap.size)
    (hK : ∀ v' w', OwnL w' lo v' (ts ++ [t]) → Below lo w1 w' → wpList Tryd.prog ops Q rest (a.put o.dst v') w') :
    wpList Tryd.prog ops Q (o :: rest) a w :=
  wpList_plain hgd fun _ hK' => wp0_appR w x y ho w0 w1 lo v ts hx h t cs ht hy hw hb hl hlo fun v' w' h2 h3 _ => hK' _ _ (hK v' w' h2 h3)
/-- in a region that draws its order -/
theorem step_appR {ops : Array Oper} {o : Oper} {a : Act} {K : Act → World → Prop} {Q : Exit → Act → World → Prop} {E : Prop} (w : World) (hgd : o.guard = none) (x y : Operand)
    (ho : o.op = .call { callee := .builtin .append, args := #[x, y], argTypes := #[29, 29] })
    (w0 w1 : World) (lo : Nat) (v : Value) (ts : List RT) (hx : a.eval x = v) (h : OwnL w0 lo v ts) (t : RT) (cs : List Value) (ht : OwnT w1 w0.heap.size t cs)
    (hy : a.eval y = .slice (some ⟨w1.heap.size, 0, none⟩) 1 1) (hw : w = w1.alloc (.cells cs.toArray 31)) (hb : Below w0.heap.size w0 w1) (hl : ts.length < 1073741824) (hlo : lo ≤ w0.heap.size)
    (hK : ∀ v' w', OwnL w' lo v' (ts ++ [t]) → Below lo w1 w' → w.grownBy w' v.ownBlock → K (a.put o.dst v') w') :
    if Region.wanted o (yielded ops a.tmps) = true then Oper.wp Tryd.prog o a w K Q else E := by
  have hwd : Region.wanted o (yielded ops a.tmps) = true := by simp [Region.wanted, hgd]
  rw [if_pos hwd]
  exact wp0_appR w x y ho w0 w1 lo v ts hx h t cs ht hy hw hb hl hlo hK
end Mm
end Go.Proofs.YtakldjdohgmeiaaDoor

namespace Go.Proofs.YtakldjdohgmeiaaDoor
open Go.RowKit
set_option maxRecDepth 20000

namespace Mm
open Pl
/-- a row of n elements in a block from lo on, whatever it holds -/
def ShR (w : World) (lo : Nat) (e : TypeId) (z : Nat) (v : Value) (n : Nat) : Prop :=
  (v = .slice none 0 0 ∧ n = 0) ∨ ∃ g cap cur, v = .slice (some ⟨g, 0, none⟩) n cap ∧ lo ≤ g ∧ w.heap[g]? = some (.cells cur e (0, 0)) ∧ n ≤ cap ∧ cap ≤ maxLen ∧ cur.size = cap * z
theorem ShR.of_own {w : World} {lo : Nat} {e : TypeId} {z : Nat} {v : Value} {n : Nat} {xs : List Value} (h : w.ownsRow lo e z v n xs) : ShR w lo e z v n := by
  rcases h.2 with h0 | ⟨g, cap, cur, h1, h2, h3, h4, h5, h6, _⟩
  · exact .inl h0
  · exact .inr ⟨g, cap, cur, h1, h2, h3, h4, h5, h6⟩
theorem ShR.own {w : World} {lo : Nat} {e : TypeId} {z : Nat} {v : Value} {n : Nat} (h : ShR w lo e z v n) : ∃ xs, w.ownsRow lo e z v n xs := by
  rcases h with ⟨h0, rfl⟩ | ⟨g, cap, cur, h1, h2, h3, h4, h5, h6⟩
  · exact ⟨[], by simp, .inl ⟨h0, rfl⟩⟩
  · refine ⟨cur.toList.take (n * z), ?_, .inr ⟨g, cap, cur, h1, h2, h3, h4, h5, h6, rfl⟩⟩
    rw [List.length_take, Array.length_toList, h6]
    exact Nat.min_eq_left (Nat.mul_le_mul_right _ h4)
/-- blocks of rows keep their size -/
def Shp (e : TypeId) (w w' : World) : Prop := ∀ (g : Nat) (cur : Array Value), w.heap[g]? = some (Obj.cells cur e (0, 0)) → ∃ cur' : Array Value, w'.heap[g]? = some (Obj.cells cur' e (0, 0)) ∧ cur'.size = cur.size
theorem Shp.refl (e : TypeId) (w : World) : Shp e w w := fun _ cur h => ⟨cur, h, rfl⟩
theorem Shp.trans {e : TypeId} {a b c : World} (h : Shp e a b) (k : Shp e b c) : Shp e a c := fun g cur hg => by
  obtain ⟨c1, h1, s1⟩ := h g cur hg
  obtain ⟨c2, h2, s2⟩ := k g c1 h1
  exact ⟨c2, h2, s2.trans s1⟩
theorem Shp.below {e : TypeId} {w w' : World} (h : Below w.heap.size w w') : Shp e w w' := fun g cur hg => ⟨cur, (h.block g (Array.getElem?_eq_some_iff.1 hg).1).trans hg, rfl⟩
theorem Shp.store {e : TypeId} {w w' : World} {p : Nat} {cs cs' : Array Value} {T : TypeId} (h : w.heap[p]? = some (.cells cs T (0, 0))) (h' : w'.heap[p]? = some (.cells cs' T (0, 0))) (hs : cs'.size = cs.size) (hg : w.grownBy w' (some p)) : Shp e w w' := fun g cur hcur => by
  by_cases hp : g = p
  · subst hp
    rw [h] at hcur
    injection hcur with hcur
    injection hcur with e1 e2 _
    subst e1
    subst e2
    exact ⟨cs', h', hs⟩
  · exact ⟨cur, (hg.block g (Array.getElem?_eq_some_iff.1 hcur).1 (fun e => hp (by injection e))).trans hcur, rfl⟩
theorem ShR.shp {w w' : World} {lo : Nat} {e : TypeId} {z : Nat} {v : Value} {n : Nat} (h : ShR w lo e z v n) (hs : Shp e w w') : ShR w' lo e z v n := by
  rcases h with h0 | ⟨g, cap, cur, h1, h2, h3, h4, h5, h6⟩
  · exact .inl h0
  · obtain ⟨cur', a1, a2⟩ := hs g cur h3
    exact .inr ⟨g, cap, cur', h1, h2, a1, h4, h5, a2.trans h6⟩
theorem ShR.lt {w : World} {lo : Nat} {e : TypeId} {z : Nat} {v : Value} {n : Nat} (h : ShR w lo e z v n) {g : Nat} (hg : v.ownBlock = some g) : lo ≤ g ∧ g < w.heap.size := by
  rcases h with ⟨rfl, _⟩ | ⟨g', cap, cur, rfl, h2, h3, _⟩
  · cases hg
  · injection hg with hg
    subst hg
    exact ⟨h2, (Array.getElem?_eq_some_iff.1 h3).1⟩
/-- a step that writes into one row, or into what is new -/
theorem grown_step {w a b : World} {row : Option Nat} {k : Option Nat} (h : w.grownBy a row) (hk : a.grownBy b k) (hr : ∀ g, k = some g → some g = row ∨ w.heap.size ≤ g) : w.grownBy b row :=
  ⟨hk.os.trans h.os, hk.tape.trans h.tape, hk.output.trans h.output, Nat.le_trans h.size hk.size, fun g hg hne => (hk.block g (Nat.lt_of_lt_of_le hg h.size) (fun e => by
    rcases hr g e.symm with h1 | h1
    · exact hne h1
    · omega)).trans (h.block g hg hne)⟩
theorem grown_below {w a : World} {row : Option Nat} (h : Below w.heap.size w a) : w.grownBy a row := ⟨h.os, h.tape, h.output, h.size, fun g hg _ => h.block g hg⟩

theorem run_append_sh (w : World) (lo : Nat) (t ty e : TypeId) (i : TypeInfo) (z : Value) (size bytes : Nat) (ht : Tryd.prog.underlying t = some (.slice e)) (hi : Tryd.prog.info? e = some i) (hz : i.zero = some z)
    (hsize : i.size = size) (hby : i.bytes = bytes) (hzs : z.cells.size = size) (hsz : 0 < size) (v : Value) (n : Nat) (hown : ShR w lo e size v n)
    (a : Addr) (m c : Nat) (news : List Value) (hl : news.length = m * size) (hnews : ∀ j u, news[j]? = some u → w.cell? (a.add j) = some u) (h1 : ∀ u ∈ news, u.oneCell' = true)
    (h63 : n + m ≤ maxLen) (hbytes : (n + m) * bytes ≤ 140737488355328) (hbase : lo ≤ w.heap.size) :
    ∃ v' w', (Builtin.append_ #[t, t] ty #[v, .slice (some a) m c]).run Tryd.prog w = .ok v' w' ∧ ShR w' lo e size v' (n + m) ∧ w.grownBy w' v.ownBlock ∧ (v'.ownBlock = v.ownBlock ∨ v'.ownBlock = some w.heap.size) ∧ Shp e w w' := by
  obtain ⟨xs, hx⟩ := hown.own
  obtain ⟨v1, w1, hr1, o1, g1, _, at1⟩ := run_append_own_at (P := Tryd.prog) w lo t ty e i z size bytes ht hi hz hsize hby hzs hsz v n xs hx a m c news hl hnews h1 h63 hbytes hbase
  refine ⟨v1, w1, hr1, .of_own o1, g1, at1, ?_⟩
  rcases hown with ⟨rfl, rfl⟩ | ⟨g, cap, cur, rfl, hlo, hg, hn, hc, hs⟩
  · exact fun g cur hg => ⟨cur, (g1.block g (Array.getElem?_eq_some_iff.1 hg).1 (fun e => by cases e)).trans hg, rfl⟩
  · by_cases hroom : n + m ≤ cap
    · obtain ⟨w2, hr2, o2, g2⟩ := run_append_own_spare (P := Tryd.prog) w lo t ty e i size ht hi hsize g n cap xs hx a m c news hl hnews h1 hroom
      rw [hr1] at hr2
      injection hr2 with hv hw
      subst hw
      rcases o2.2 with ⟨h0, _⟩ | ⟨g', cap', cur', hv', _, hg', _, _, hs', _⟩
      · cases h0
      · injection hv' with a1 a2 a3
        injection a1 with a1
        injection a1 with a1
        subst a1
        subst a3
        exact Shp.store hg hg' (hs'.trans hs.symm) g2
    · have holds : ∀ j u, xs[j]? = some u → w.cell? ((⟨g, 0, none⟩ : Addr).add j) = some u := hx.cells (g := g) rfl
      subst hsize
      subst hby
      have hsmall : n + m ≤ 9223372036854775807 := by simp only [maxLen] at h63; omega
      have hr := run_append_grow (P := Tryd.prog) w t ty e i z ht hi hz ⟨g, 0, none⟩ n cap xs hx.1 holds a m c news hl hnews (by omega) (by omega) (growslice_fits (by omega) hbytes)
      rw [hr1] at hr
      injection hr with hv hw
      rw [hw]
      exact Shp.below (((Below.refl _ _).drew).alloc (Nat.le_refl _) _)

/-- 'append(g, c)', c a byte -/
theorem wp_app1Sh {ops : Array Oper} {rest : List Oper} {o : Oper} {a : Act} {Q : Exit → Act → World → Prop} (w : World) (hgd : o.guard = none) (x y : Operand)
    (ho : o.op = .call { callee := .builtin .append, args := #[x, y], argTypes := #[24, 24] })
    (lo : Nat) (v : Value) (n : Nat) (c : Int) (hx : a.eval x = v) (hy : a.eval y = .slice (some ⟨w.heap.size, 0, none⟩) 1 1) (h : ShR w lo 5 1 v n) (hl : n < 140737488355328) (hlo : lo ≤ w.heap.size)
    (hK : ∀ v' w', ShR w' lo 5 1 v' (n + 1) → w.grownBy w' v.ownBlock → (v'.ownBlock = v.ownBlock ∨ ∃ k, v'.ownBlock = some k ∧ w.heap.size ≤ k) → Shp 5 w w' → wpList Tryd.prog ops Q rest (a.put o.dst v') w') :
    wpList Tryd.prog ops Q (o :: rest) a (w.alloc (.cells #[.int .u8 c] 5)) := by
  obtain ⟨i0, hi, hz0, hz1, hz2⟩ := info_parts Tryd.info_u8
  have hb : Below w.heap.size w (w.alloc (.cells #[.int .u8 c] 5)) := (Below.refl _ _).alloc (Nat.le_refl _) _
  obtain ⟨v', w', hr, h1, h2, h3, h4⟩ := run_append_sh (w.alloc (.cells #[.int .u8 c] 5)) lo 24 o.type 5 i0 (.int .u8 0) 1 1 Tryd.underlying24 hi hz0 hz1 hz2 rfl (by decide) v n (h.shp (Shp.below hb)) ⟨w.heap.size, 0, none⟩ 1 1 [.int .u8 c] rfl (cell_one_new _ _ _)
    (by intro u hu; simp at hu; subst hu; rfl) (by unfold maxLen; omega) (by omega) (by simp; omega)
  refine wpList_plain hgd fun K hK' => ?_
  unfold Oper.wp execOp
  simp only [ho, resolve, invoke, builtin, Sem.run_bind, Sem.run_pure, Result.andThen_ok, List.map_toArray, List.map_cons, List.map_nil, hx, hy, hr]
  refine hK' _ _ (hK v' w' h1 ?_ ?_ ((Shp.below hb).trans h4))
  · refine ⟨h2.os, h2.tape, h2.output, Nat.le_trans hb.size h2.size, fun k hk hne => (h2.block k (Nat.lt_of_lt_of_le hk hb.size) hne).trans (hb.block k hk)⟩
  · rcases h3 with h3 | h3
    · exact .inl h3
    · exact .inr ⟨_, h3, hb.size⟩

/-- 'append(g, m...)', m bytes of a block -/
theorem wp_appMSh {ops : Array Oper} {rest : List Oper} {o : Oper} {a : Act} {Q : Exit → Act → World → Prop} (w : World) (hgd : o.guard = none) (x y : Operand)
    (ho : o.op = .call { callee := .builtin .append, args := #[x, y], argTypes := #[24, 24] })
    (lo : Nat) (v : Value) (n : Nat) (g c : Nat) (m : List UInt8) (k : Nat) (hk : m.length = k) (hx : a.eval x = v) (hy : a.eval y = .slice (some ⟨g, 0, none⟩) k c) (h : ShR w lo 5 1 v n) (hm : BlkB w g m) (hl : n + m.length < 140737488355328) (hlo : lo ≤ w.heap.size)
    (hK : ∀ v' w', ShR w' lo 5 1 v' (n + m.length) → w.grownBy w' v.ownBlock → (v'.ownBlock = v.ownBlock ∨ v'.ownBlock = some w.heap.size) → Shp 5 w w' → wpList Tryd.prog ops Q rest (a.put o.dst v') w') :
    wpList Tryd.prog ops Q (o :: rest) a w := by
  subst hk
  obtain ⟨i0, hi, hz0, hz1, hz2⟩ := info_parts Tryd.info_u8
  obtain ⟨v', w', hr, h1, h2, h3, h4⟩ := run_append_sh w lo 24 o.type 5 i0 (.int .u8 0) 1 1 Tryd.underlying24 hi hz0 hz1 hz2 rfl (by decide) v n h ⟨g, 0, none⟩ m.length c (bytesV m) (by simp [bytesV])
    (by
      intro j u hj
      have e : (⟨g, 0, none⟩ : Addr).add j = ⟨g, j, none⟩ := by unfold Addr.add; split <;> simp_all
      have hjl : j < m.length := by have := (List.getElem?_eq_some_iff.1 hj).1; rwa [bytesV_length] at this
      rw [e, hm.cell j hjl]
      rw [← hj]
      simp [bytesV, byteV, at_, List.getElem?_eq_getElem hjl, List.getD_eq_getElem?_getD])
    (bytesV_one m) (by unfold maxLen; omega) (by omega) hlo
  refine wpList_plain hgd fun K hK' => ?_
  unfold Oper.wp execOp
  simp only [ho, resolve, invoke, builtin, Sem.run_bind, Sem.run_pure, Result.andThen_ok, List.map_toArray, List.map_cons, List.map_nil, hx, hy, hr]
  exact hK' _ _ (hK v' w' h1 h2 h3 h4)

/-- 'v[i] = c' -/
theorem wp_storeSh {ops : Array Oper} {rest : List Oper} {op : Oper} {a : Act} {Q : Exit → Act → World → Prop} (w : World) (hgd : op.guard = none) (x y : Operand) (ho : op.op = .store 5 x y)
    (lo g i n cap : Nat) (c : Int) (h : ShR w lo 5 1 (.slice (some ⟨g, 0, none⟩) n cap) n) (hx : a.eval x = .pointer (some ⟨g, i, none⟩)) (hy : a.eval y = .int .u8 c) (hi : i < n)
    (hK : ∀ w', w'.heap.size = w.heap.size → w.grownBy w' (some g) → Shp 5 w w' → wpList Tryd.prog ops Q rest (a.put op.dst undef) w') : wpList Tryd.prog ops Q (op :: rest) a w := by
  rcases h with ⟨h0, _⟩ | ⟨g', cap', cur, hv, hlo, hg, hn, hc, hs⟩
  · cases h0
  · injection hv with a1 a2 a3
    injection a1 with a1
    injection a1 with a1
    subst a1
    subst a3
    refine wp_storeF w hgd 5 x y ho (by kernel_rfl) g i 5 cur (.int .u8 c) hg hx hy (by omega) rfl rfl ?_
    intro w' h1 h2 h3
    exact hK w' h2 h3 (Shp.store hg h1 (by simp) h3)
end Mm
end Go.Proofs.YtakldjdohgmeiaaDoor
