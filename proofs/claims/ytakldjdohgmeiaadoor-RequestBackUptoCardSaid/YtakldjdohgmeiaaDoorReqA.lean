/- Contracts of request's hex, blank, single, double: the bytes of a quoted word. Conditions: texts within the form's reach. -/
import Derived.Test.YtakldjdohgmeiaaDoorDigI
import Derived.Test.YtakldjdohgmeiaaDoorMem
import Derived.Deep.QuietTactic
import Derived.BigQuiet
namespace Go.Proofs.YtakldjdohgmeiaaDoor
open Go.RowKit
set_option maxRecDepth 20000

namespace Pl
/-- what a digit of sixteen says; 16: it is none -/
def hexV (c : Int) : Int := if 48 ≤ c ∧ c ≤ 57 then c - 48 else if 97 ≤ c ∧ c ≤ 102 then c - 87 else if 65 ≤ c ∧ c ≤ 70 then c - 55 else 16
theorem hexV_bd (c : Int) : 0 ≤ hexV c ∧ hexV c ≤ 16 := by unfold hexV; (repeat' split) <;> omega
theorem hex_or_fin : ∀ x : Fin 16, ∀ y : Fin 16, bits BinOp.or IntKind.u8 ((x.val : Int) * 16) (y.val : Int) = (x.val : Int) * 16 + y.val := by decide +kernel
theorem hex_or (x y : Int) (x0 : 0 ≤ x) (x1 : x < 16) (y0 : 0 ≤ y) (y1 : y < 16) : bits BinOp.or IntKind.u8 (x * 16) y = x * 16 + y := by
  obtain ⟨a, rfl⟩ := Int.eq_ofNat_of_zero_le x0
  obtain ⟨b, rfl⟩ := Int.eq_ofNat_of_zero_le y0
  exact hex_or_fin ⟨a, by omega⟩ ⟨b, by omega⟩
def hexU (c : UInt8) : Int := hexV (c.toNat : Int)
/-- the byte behind a backslash -/
def esc (c : UInt8) : UInt8 := if c = 110 then 10 else if c = 114 then 13 else if c = 116 then 9 else c
/-- two digits of sixteen stand ahead -/
def two (l : List UInt8) : Bool := match l with
  | a :: b :: _ => decide (hexU a < 16) && decide (hexU b < 16)
  | _ => false
def twoV (l : List UInt8) : UInt8 := match l with
  | a :: b :: _ => ofI (hexU a * 16 + hexU b)
  | _ => 0
/-- a word between double quotes, behind the first: its bytes, and how many bytes it takes; by fuel -/
def dbl : Nat → List UInt8 → Option (List UInt8 × Nat)
  | 0, _ => none
  | _, [] => none
  | f + 1, c :: r =>
    if c = 34 then some ([], 1)
    else if c = 92 then
      match r with
      | [] => none
      | d :: r2 =>
        if d = 120 ∧ two r2 = true then (dbl f (r2.drop 2)).map fun p => (twoV r2 :: p.1, p.2 + 4)
        else (dbl f r2).map fun p => (esc d :: p.1, p.2 + 2)
    else (dbl f r).map fun p => (c :: p.1, p.2 + 1)
/-- a word between single quotes, behind the first -/
def sgl : Nat → List UInt8 → Option (List UInt8 × Nat)
  | 0, _ => none
  | _, [] => none
  | f + 1, c :: r =>
    if c = 39 then some ([], 1)
    else if c = 92 ∧ r.head? = some 39 then (sgl f (r.drop 1)).map fun p => (39 :: p.1, p.2 + 2)
    else (sgl f r).map fun p => (c :: p.1, p.2 + 1)
theorem drop_get (s : ByteArray) (i : Nat) (h : i < s.size) : (L s).drop i = s[i]'h :: (L s).drop (i + 1) := by
  have h' : i < (L s).length := by rw [L_length]; exact h
  rw [List.drop_eq_getElem_cons h']
  congr 1
theorem drop_end (s : ByteArray) (i : Nat) (h : s.size ≤ i) : (L s).drop i = [] := List.drop_eq_nil_iff.2 (by rw [L_length]; exact h)
end Pl

theorem hex_walk (c : Int) (w : World) (h0 : 0 ≤ c) (h1 : c ≤ 255) :
    Calls Tryd.prog 70 #[.int .u8 c] w fun e w' => e = .returned (.int .u8 (Pl.hexV c)) ∧ w = w' := by
  have HR : Hid (Pl.hexV c = if 48 ≤ c ∧ c ≤ 57 then c - 48 else if 97 ≤ c ∧ c ≤ 102 then c - 87 else if 65 ≤ c ∧ c ≤ 70 then c - 55 else 16) := rfl
  rcases (by omega : (48 ≤ c ∧ c ≤ 57) ∨ (97 ≤ c ∧ c ≤ 102) ∨ (65 ≤ c ∧ c ≤ 70) ∨ c < 48 ∨ (57 < c ∧ c < 65) ∨ (70 < c ∧ c < 97) ∨ 102 < c) with ⟨a, b⟩ | ⟨a, b⟩ | ⟨a, b⟩ | a | ⟨a, b⟩ | ⟨a, b⟩ | a
  all_goals
    go_enter Tryd.func70, Tryd.ntmps70
    go_wp2
    go_ret
    refine ⟨Pl.ret1i ?_, rfl⟩
    rw [HR.out]
    (repeat' split) <;> omega

theorem blank_walk (c : Int) (w : World) (h0 : 0 ≤ c) (h1 : c ≤ 255) :
    Calls Tryd.prog 56 #[.int .u8 c] w fun e w' => e = .returned (.bool (c == 32 || c == 9)) ∧ w = w' := by
  rcases Decidable.em (c = 32) with rfl | a
  · go_enter Tryd.func56, Tryd.ntmps56
    go_wp2
    go_ret
    exact ⟨rfl, rfl⟩
  · have e1 : (c == 32) = false := beq_eq_false_iff_ne.2 a
    go_enter Tryd.func56, Tryd.ntmps56
    go_wp2
    go_ret
    exact ⟨Pl.ret1b (by rw [e1]; rfl), rfl⟩
end Go.Proofs.YtakldjdohgmeiaaDoor
