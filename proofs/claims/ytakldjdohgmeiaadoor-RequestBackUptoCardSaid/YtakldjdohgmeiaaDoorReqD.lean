/- Rows of texts that the call itself made; the words of a line, in plain Lean. Conditions stand in each law. -/
import Derived.Test.YtakldjdohgmeiaaDoorReqC
namespace Go.Proofs.YtakldjdohgmeiaaDoor
open Go.RowKit
set_option maxRecDepth 20000

theorem Tryd.info_str : (Tryd.prog.info? 9).map (fun i => (i.zero, i.size, i.bytes)) = some (some (.string ⟨#[]⟩), 1, 16) := by kernel_rfl

namespace Mm
open Pl
def strsV (l : List (List UInt8)) : List Value := l.map fun s => .string (B s)
theorem strsV_append (l m : List (List UInt8)) : strsV (l ++ m) = strsV l ++ strsV m := by simp [strsV]
/-- an owned row of texts -/
def OwnS (w : World) (base : Nat) (v : Value) (l : List (List UInt8)) : Prop := w.ownsRow base 9 1 v l.length (strsV l)
theorem ownS_nil (w : World) (b : Nat) : OwnS w b (.slice none 0 0) [] := ⟨rfl, .inl ⟨rfl, rfl⟩⟩
/-- its value is a slice of so many -/
theorem OwnS.val {w : World} {b : Nat} {v : Value} {l : List (List UInt8)} (h : OwnS w b v l) : ∃ a c, v = .slice a l.length c ∧ (l.length = 0 ∧ a = none ∧ c = 0 ∨ ∃ g, a = some ⟨g, 0, none⟩ ∧ b ≤ g ∧ g < w.heap.size ∧ l.length ≤ c) := by
  rcases h.2 with ⟨rfl, h0⟩ | ⟨g, cap, cur, rfl, hb, hg, hle, _⟩
  · exact ⟨none, 0, by rw [h0], .inl ⟨h0, rfl, rfl⟩⟩
  · exact ⟨_, _, rfl, .inr ⟨g, rfl, hb, (Array.getElem?_eq_some_iff.1 hg).1, hle⟩⟩
/-- 'append(words, s)' -/
theorem wp_app1S {ops : Array Oper} {rest : List Oper} {o : Oper} {a : Act} {Q : Exit → Act → World → Prop} (w : World) (hgd : o.guard = none) (x y : Operand)
    (ho : o.op = .call { callee := .builtin .append, args := #[x, y], argTypes := #[22, 22] })
    (base : Nat) (v : Value) (l : List (List UInt8)) (s : ByteArray) (hx : a.eval x = v) (hy : a.eval y = .slice (some ⟨w.heap.size, 0, none⟩) 1 1) (h : OwnS w base v l) (hl : l.length < 8796093022208) (hbase : base ≤ w.heap.size)
    (hK : ∀ v' w', OwnS w' base v' (l ++ [L s]) → Below base w w' → wpList Tryd.prog ops Q rest (a.put o.dst v') w') :
    wpList Tryd.prog ops Q (o :: rest) a (w.alloc (.cells #[.string s] 9)) := by
  obtain ⟨i0, hi, hz0, hz1, hz2⟩ := info_parts Tryd.info_str
  refine wpList_append_own _ hgd x y 22 ho base 9 i0 (.string ⟨#[]⟩) 1 16 Tryd.underlying22 hi hz0 hz1 hz2 rfl (by decide) v l.length (strsV l) hx (h.alloc _) ⟨w.heap.size, 0, none⟩ 1 1 [.string s] hy rfl ?_ ?_ ?_ ?_ ?_ ?_
  · intro j u hj
    match j, hj with
    | 0, hj =>
      simp at hj
      subst hj
      simp [Addr.add]
  · intro u hu
    simp at hu
    subst hu
    rfl
  · unfold maxLen; omega
  · omega
  · simp; omega
  · intro v' w' h1 h2 _
    refine hK v' w' (by unfold OwnS; rw [strsV_append, List.length_append]; simp only [strsV, List.map_cons, List.map_nil, B_L]; exact h1) (((Below.refl _ _).alloc hbase _).grown h2 (by simp; omega) (fun k hk => (h.lt k hk).1))
end Mm

namespace Pl
def blankB (c : UInt8) : Bool := c == 32 || c == 9
theorem nat_ne {c d : UInt8} (h : c ≠ d) (n : Int) (hd : (d.toNat : Int) = n) : ((c.toNat : Int) == n) = false := beq_eq_false_iff_ne.2 fun e => h (UInt8.toNat_inj.1 (by omega))
theorem blank_nat (c : UInt8) : ((c.toNat : Int) == 32 || (c.toNat : Int) == 9) = blankB c := by
  unfold blankB
  by_cases h1 : c = 32
  · subst h1; rfl
  · by_cases h2 : c = 9
    · subst h2; rfl
    · rw [beq_eq_false_iff_ne.2 h1, beq_eq_false_iff_ne.2 h2, nat_ne h1 32 rfl, nat_ne h2 9 rfl]
/-- the first word of a line that does not begin with a blank, and how many bytes it takes -/
def tok (l : List UInt8) : Option (List UInt8 × Nat) :=
  if l.head? = some 34 then (dbl l.length l.tail).map fun p => (p.1, p.2 + 1)
  else if l.head? = some 39 then (sgl l.length l.tail).map fun p => (p.1, p.2 + 1)
  else some (l.takeWhile (fun c => !blankB c), (l.takeWhile (fun c => !blankB c)).length)
/-- the words of a line: 0 and the words, or what is wrong -/
def inl : Nat → List UInt8 → List (List UInt8) → Nat × List (List UInt8)
  | 0, _, _ => (9, [])
  | f + 1, l, acc =>
    match l.dropWhile blankB with
    | [] => (0, acc)
    | c :: r =>
      if acc.length = 1024 then (1, [])
      else match tok (c :: r) with
        | none => (2, [])
        | some p =>
          if ((c :: r).drop p.2).head?.any (fun d => !blankB d) then (2, [])
          else inl f ((c :: r).drop p.2) (acc ++ [p.1])
theorem dbl_le : ∀ (f : Nat) (l : List UInt8) (p : List UInt8 × Nat), dbl f l = some p → p.2 ≤ l.length ∧ 1 ≤ p.2
  | 0, _, _, h => by cases h
  | f + 1, [], _, h => by cases h
  | f + 1, c :: r, p, h => by
    by_cases h1 : c = 34
    · subst h1
      rw [dbl_q] at h
      injection h with h
      subst h
      simp
    · by_cases h2 : c = 92
      · subst h2
        cases r with
        | nil => rw [dbl_end] at h; cases h
        | cons d r2 =>
          by_cases h3 : d = 120 ∧ two r2 = true
          · obtain ⟨rfl, h3⟩ := h3
            rw [dbl_two _ _ h3] at h
            cases hq : dbl f (r2.drop 2) with
            | none => rw [hq] at h; cases h
            | some q =>
              rw [hq] at h
              injection h with h
              subst h
              have := dbl_le f _ q hq
              have h4 : 2 ≤ r2.length := by
                match r2, h3 with
                | a :: b :: _, _ => simp
              rw [List.length_drop] at this
              simp
              omega
          · rw [dbl_esc _ _ _ h3] at h
            cases hq : dbl f r2 with
            | none => rw [hq] at h; cases h
            | some q =>
              rw [hq] at h
              injection h with h
              subst h
              have := dbl_le f _ q hq
              simp
              omega
      · rw [dbl_c _ _ _ h1 h2] at h
        cases hq : dbl f r with
        | none => rw [hq] at h; cases h
        | some q =>
          rw [hq] at h
          injection h with h
          subst h
          have := dbl_le f _ q hq
          simp
          omega
theorem sgl_le : ∀ (f : Nat) (l : List UInt8) (p : List UInt8 × Nat), sgl f l = some p → p.2 ≤ l.length ∧ 1 ≤ p.2
  | 0, _, _, h => by cases h
  | f + 1, [], _, h => by cases h
  | f + 1, c :: r, p, h => by
    by_cases h1 : c = 39
    · subst h1
      rw [sgl_q] at h
      injection h with h
      subst h
      simp
    · by_cases h2 : c = 92 ∧ r.head? = some 39
      · obtain ⟨rfl, h2⟩ := h2
        cases r with
        | nil => cases h2
        | cons d r2 =>
          obtain rfl : d = 39 := by simpa using h2
          rw [sgl_e] at h
          cases hq : sgl f r2 with
          | none => rw [hq] at h; cases h
          | some q =>
            rw [hq] at h
            injection h with h
            subst h
            have := sgl_le f _ q hq
            simp
            omega
      · rw [sgl_c _ _ _ h1 h2] at h
        cases hq : sgl f r with
        | none => rw [hq] at h; cases h
        | some q =>
          rw [hq] at h
          injection h with h
          subst h
          have := sgl_le f _ q hq
          simp
          omega
end Pl
end Go.Proofs.YtakldjdohgmeiaaDoor
