/- Plain laws on words of digits: what is read as a whole number, and how a number is written. No condition beyond those that stand in each law. Contract of digit.plain: is a word digits in their one form? No condition but the form's reach. Contract of the reference's Text: a number's word. Condition: the number fits 64 bits. Contracts of request's hex, blank, single, double: the bytes of a quoted word. Conditions: texts within the form's reach. Contracts of request's single and double: the word between quotes, and how many bytes it takes. Conditions: texts within the form's reach. Contract of request's double: the word between double quotes, and how many bytes it takes. Conditions: texts within the form's reach. Conditions stand in each law. -/
import Derived.Test.YtakldjdohgmeiaaDoorBuReplyCommands2
import Derived.Lib.ParseIntBTie
import Derived.Lib.ItoaNum
import Derived.Test.YtakldjdohgmeiaaDoorProg
import Derived.Deep.QuietTactic
import Derived.BigQuiet
namespace Go.Proofs.YtakldjdohgmeiaaDoor.Pl
open Go.RowKit

/-- a byte that is a digit -/
def isDB (c : UInt8) : Bool := decide (48 ≤ c.toNat) && decide (c.toNat ≤ 57)
/-- digits in their one form -/
def plainW (l : List UInt8) : Bool := l == [48] || (!l.isEmpty && decide (l.head? ≠ some 48) && l.all isDB)
/-- what a word of digits counts, behind what was counted -/
def num : Nat → List UInt8 → Nat
  | acc, [] => acc
  | acc, c :: r => num (acc * 10 + (c.toNat - 48)) r

def allD (l : List UInt8) : Prop := ∀ c ∈ l, 48 ≤ c.toNat ∧ c.toNat ≤ 57

theorem allD_iff (l : List UInt8) : l.all isDB = true ↔ allD l := by
  unfold allD isDB
  rw [List.all_eq_true]
  constructor
  · intro h c hc
    have := h c hc
    simpa using this
  · intro h c hc
    have := h c hc
    simpa using this

theorem num_append : ∀ (a b : List UInt8) (acc : Nat), num acc (a ++ b) = num (num acc a) b
  | [], _, _ => rfl
  | c :: a, b, acc => num_append a b (acc * 10 + (c.toNat - 48))
theorem num_snoc (l : List UInt8) (c : UInt8) : num 0 (l ++ [c]) = num 0 l * 10 + (c.toNat - 48) := by
  rw [num_append]
  rfl
theorem num_ge : ∀ (l : List UInt8) (acc : Nat), acc ≤ num acc l
  | [], _ => Nat.le_refl _
  | c :: r, acc => Nat.le_trans (by omega) (num_ge r (acc * 10 + (c.toNat - 48)))
theorem num_ge_pow : ∀ (l : List UInt8) (acc : Nat), acc * 10 ^ l.length ≤ num acc l
  | [], acc => by
    show acc * 10 ^ 0 ≤ acc
    omega
  | c :: r, acc => by
    have h := num_ge_pow r (acc * 10 + (c.toNat - 48))
    rw [List.length_cons, Nat.pow_succ, Nat.mul_comm (10 ^ r.length) 10, ← Nat.mul_assoc]
    show _ ≤ num (acc * 10 + (c.toNat - 48)) r
    have h2 : acc * 10 * 10 ^ r.length ≤ (acc * 10 + (c.toNat - 48)) * 10 ^ r.length := Nat.mul_le_mul_right _ (Nat.le_add_right _ _)
    exact Nat.le_trans h2 h
theorem num_lt : ∀ (l : List UInt8) (acc k : Nat), allD l → acc < 10 ^ k → num acc l < 10 ^ (k + l.length)
  | [], acc, k, _, h => h
  | c :: r, acc, k, hd, h => by
    have hc := hd c (by simp)
    have h' : acc * 10 + (c.toNat - 48) < 10 ^ (k + 1) := by
      rw [Nat.pow_succ]
      omega
    have := num_lt r _ (k + 1) (fun x hx => hd x (by simp [hx])) h'
    rw [List.length_cons, show k + (r.length + 1) = k + 1 + r.length by omega]
    exact this

theorem plainW_cases {l : List UInt8} (h : plainW l = true) : l = [48] ∨ ∃ c r, l = c :: r ∧ c ≠ 48 ∧ allD l := by
  unfold plainW at h
  rw [Bool.or_eq_true] at h
  rcases h with h | h
  · exact Or.inl (by simpa using h)
  · rw [Bool.and_eq_true, Bool.and_eq_true] at h
    obtain ⟨⟨h1, h2⟩, h3⟩ := h
    cases l with
    | nil => simp at h1
    | cons c r => exact Or.inr ⟨c, r, rfl, by simpa using h2, (allD_iff _).1 h3⟩
theorem plainW_allD {l : List UInt8} (h : plainW l = true) : allD l ∧ l ≠ [] := by
  rcases plainW_cases h with rfl | ⟨c, r, rfl, _, h3⟩
  · refine ⟨?_, by simp⟩
    intro c hc
    simp at hc
    subst hc
    decide
  · exact ⟨h3, by simp⟩
theorem plainW_of {c : UInt8} {r : List UInt8} (h : c ≠ 48) (hd : allD (c :: r)) : plainW (c :: r) = true := by
  unfold plainW
  rw [Bool.or_eq_true]
  right
  rw [Bool.and_eq_true, Bool.and_eq_true]
  exact ⟨⟨rfl, by simpa using h⟩, (allD_iff _).2 hd⟩
theorem plainW_head {c : UInt8} {r : List UInt8} (h : plainW (c :: r) = true) : 48 ≤ c.toNat ∧ c.toNat ≤ 57 := (plainW_allD h).1 c (by simp)
/-- many digits make a great number -/
theorem num_big {c : UInt8} {r : List UInt8} (h : c ≠ 48) (hd : allD (c :: r)) : 10 ^ r.length ≤ num 0 (c :: r) := by
  have hc := hd c (by simp)
  have hn : c.toNat ≠ 48 := fun e => h (UInt8.toNat_inj.1 e)
  have h1 := num_ge_pow r (0 * 10 + (c.toNat - 48))
  refine Nat.le_trans ?_ h1
  exact Nat.le_trans (by rw [Nat.one_mul]; exact Nat.le_refl _) (Nat.mul_le_mul_right (10 ^ r.length) (show 1 ≤ 0 * 10 + (c.toNat - 48) by omega))
theorem plainW_big {l : List UInt8} (h : plainW l = true) (n : Nat) (hn : n < l.length) (h1 : 1 ≤ n) : 10 ^ n ≤ num 0 l := by
  rcases plainW_cases h with rfl | ⟨c, r, rfl, h2, h3⟩
  · simp at hn
    omega
  · refine Nat.le_trans ?_ (num_big h2 h3)
    exact Nat.pow_le_pow_right (by decide) (by simp at hn; omega)

/-! what the library's two readers tell of such a word -/
theorem parseM {M : Nat} (hM : M ≤ 18446744073709551615) : ∀ (l : List UInt8) (acc : Nat), allD l → acc ≤ M →
    Lib.parseUintM M acc l = if num acc l ≤ M then .ok (num acc l) else .range
  | [], acc, _, h => by
    show Lib.NumEnd.ok acc = if acc ≤ M then .ok acc else .range
    rw [if_pos h]
  | c :: r, acc, hd, h => by
    have hc : 48 ≤ c.toNat ∧ c.toNat ≤ 57 := hd c (by simp)
    have hr : allD r := fun x hx => hd x (by simp [hx])
    have hg := num_ge r (acc * 10 + (c.toNat - 48))
    have e : num acc (c :: r) = num (acc * 10 + (c.toNat - 48)) r := rfl
    rw [e]
    unfold Lib.parseUintM
    rw [if_pos hc]
    by_cases h1 : 1844674407370955162 ≤ acc
    · rw [if_pos h1, if_neg (by omega)]
    · rw [if_neg h1]
      by_cases h2 : M < acc * 10 + (c.toNat - 48)
      · rw [if_pos h2, if_neg (by omega)]
      · rw [if_neg h2]
        exact parseM hM r _ hr (by omega)

theorem parseU {l : List UInt8} (h : plainW l = true) : Lib.parseUintB 64 l = if num 0 l ≤ 18446744073709551615 then .ok (num 0 l) else .range := by
  obtain ⟨h1, h2⟩ := plainW_allD h
  have e : (2 : Nat) ^ 64 - 1 = 18446744073709551615 := by decide
  unfold Lib.parseUintB
  rw [if_neg h2, e]
  exact parseM (Nat.le_refl _) l 0 h1 (Nat.zero_le _)
theorem parseI {l : List UInt8} (h : plainW l = true) : Lib.parseIntB 64 l = if num 0 l ≤ 9223372036854775807 then .ok (num 0 l : Int) else .range := by
  have e : (2 : Nat) ^ (64 - 1) = 9223372036854775808 := by decide
  have hu := parseU h
  cases l with
  | nil => simp [plainW] at h
  | cons c r =>
    have hc := plainW_head h
    rw [Lib.parseIntB_plain 64 c r (by omega) (by omega), hu, e]
    by_cases h1 : num 0 (c :: r) ≤ 18446744073709551615
    · rw [if_pos h1]
      simp only [Lib.signlessC]
      by_cases h2 : 9223372036854775808 ≤ num 0 (c :: r)
      · rw [if_pos h2, if_neg (by omega)]
      · rw [if_neg h2, if_pos (by omega)]
    · rw [if_neg h1, if_neg (by omega)]
      rfl
theorem parseN {r : List UInt8} (h : plainW r = true) : Lib.parseIntB 64 (45 :: r) = if num 0 r ≤ 9223372036854775808 then .ok (-(num 0 r : Int)) else .range := by
  have e : (2 : Nat) ^ (64 - 1) = 9223372036854775808 := by decide
  rw [Lib.parseIntB_minus, parseU h, e]
  by_cases h1 : num 0 r ≤ 18446744073709551615
  · rw [if_pos h1]
    simp only [Lib.signedC]
    by_cases h2 : 9223372036854775808 < num 0 r
    · rw [if_pos h2, if_neg (by omega)]
    · rw [if_neg h2, if_pos (by omega)]
  · rw [if_neg h1, if_neg (by omega)]
    rfl

/-! the two readers of the layer -/
/-- what Uint reads -/
def rU (l : List UInt8) : Option Nat := if plainW l = true ∧ num 0 l ≤ 18446744073709551615 then some (num 0 l) else none
/-- what Int reads -/
def rI (l : List UInt8) : Option Int :=
  if l.head? = some 45 then if plainW l.tail = true ∧ l.tail ≠ [48] ∧ num 0 l.tail ≤ 9223372036854775808 then some (-(num 0 l.tail : Int)) else none
  else if plainW l = true ∧ num 0 l ≤ 9223372036854775807 then some (num 0 l : Int) else none
/-- the word behind the sign, as Int takes it -/
def iW (l : List UInt8) : List UInt8 := if 1 < l.length ∧ l.head? = some 45 ∧ l ≠ [45, 48] then l.tail else l
def cU (l : List UInt8) : Option Nat := match Lib.parseUintB 64 l with
  | .ok v => if plainW l = true then some v else none
  | _ => none
def cI (l : List UInt8) : Option Int := match Lib.parseIntB 64 l with
  | .ok v => if plainW (iW l) = true then some v else none
  | _ => none

theorem cU_eq (l : List UInt8) : cU l = rU l := by
  unfold cU rU
  by_cases h : plainW l = true
  · rw [parseU h]
    by_cases h1 : num 0 l ≤ 18446744073709551615
    · simp [h, h1]
    · simp [h, h1]
  · cases Lib.parseUintB 64 l <;> simp [h]
theorem plain_minus (r : List UInt8) : plainW (45 :: r) = false := by
  cases h : plainW (45 :: r)
  · rfl
  · have := plainW_head h
    exact absurd this.1 (by decide)
theorem cI_eq (l : List UInt8) : cI l = rI l := by
  unfold cI rI
  cases l with
  | nil => rfl
  | cons c r =>
    by_cases hc : c = 45
    · subst hc
      rw [if_pos (by rfl)]
      show _ = if plainW r = true ∧ r ≠ [48] ∧ num 0 r ≤ 9223372036854775808 then some (-(num 0 r : Int)) else none
      by_cases hw : r = [] ∨ r = [48]
      · have e : iW (45 :: r) = 45 :: r := by
          unfold iW
          rw [if_neg]
          rintro ⟨h1, _, h3⟩
          rcases hw with rfl | rfl
          · simp at h1
          · exact h3 rfl
        have hn : ¬ (plainW r = true ∧ r ≠ [48] ∧ num 0 r ≤ 9223372036854775808) := by
          rintro ⟨h1, h2, _⟩
          rcases hw with rfl | rfl
          · exact absurd h1 (by decide)
          · exact h2 rfl
        rw [e, plain_minus, if_neg hn]
        cases Lib.parseIntB 64 (45 :: r) <;> simp
      · have hr : r ≠ [] := fun e => hw (Or.inl e)
        have hr' : r ≠ [48] := fun e => hw (Or.inr e)
        have e : iW (45 :: r) = r := by
          unfold iW
          rw [if_pos]
          · rfl
          · refine ⟨?_, rfl, fun e => hr' (by injection e)⟩
            have := List.length_pos_iff.2 hr
            simp only [List.length_cons]
            omega
        rw [e]
        by_cases h : plainW r = true
        · rw [parseN h]
          by_cases h1 : num 0 r ≤ 9223372036854775808
          · simp [h, h1, hr']
          · simp [h, h1]
        · cases Lib.parseIntB 64 (45 :: r) <;> simp [h]
    · have e : iW (c :: r) = c :: r := by
        unfold iW
        rw [if_neg]
        rintro ⟨_, h2, _⟩
        exact hc (by simpa using h2)
      rw [if_neg (by simpa using hc), e]
      by_cases h : plainW (c :: r) = true
      · rw [parseI h]
        by_cases h1 : num 0 (c :: r) ≤ 9223372036854775807
        · simp [h, h1]
        · simp [h, h1]
      · cases Lib.parseIntB 64 (c :: r) <;> simp [h]

theorem rI_bounds {l : List UInt8} {v : Int} (h : rI l = some v) : In64 v := by
  unfold rI at h
  unfold In64
  split at h
  · split at h
    · rename_i h1
      injection h with h
      omega
    · cases h
  · split at h
    · rename_i h1
      injection h with h
      omega
    · cases h

/-! how a number is written -/
theorem num_dec (u : Nat) : num 0 (Lib.decDigits u) = u ∧ allD (Lib.decDigits u) ∧ (u ≠ 0 → ∃ c r, Lib.decDigits u = c :: r ∧ c ≠ 48) := by
  induction u using Nat.strongRecOn with
  | _ u ih =>
    have hd : ∀ k, k < 10 → (UInt8.ofNat (48 + k)).toNat = 48 + k := by
      intro k hk
      rw [UInt8.toNat_ofNat']
      omega
    by_cases h : u < 10
    · rw [Lib.decDigits, dif_pos h]
      refine ⟨?_, ?_, ?_⟩
      · show 0 * 10 + ((UInt8.ofNat (48 + u)).toNat - 48) = u
        rw [hd u h]
        omega
      · intro c hc
        have : c = UInt8.ofNat (48 + u) := by simpa using hc
        subst this
        rw [hd u h]
        omega
      · intro hu
        refine ⟨_, _, rfl, ?_⟩
        intro e
        have := congrArg UInt8.toNat e
        rw [hd u h] at this
        exact hu (by have h48 : (48 : UInt8).toNat = 48 := rfl
                     omega)
    · obtain ⟨h1, h2, h3⟩ := ih (u / 10) (by omega)
      rw [Lib.decDigits, dif_neg h]
      have hk : u % 10 < 10 := Nat.mod_lt _ (by decide)
      refine ⟨?_, ?_, ?_⟩
      · rw [num_snoc, h1, hd _ hk]
        omega
      · intro c hc
        rcases List.mem_append.1 hc with hc | hc
        · exact h2 c hc
        · have : c = UInt8.ofNat (48 + u % 10) := by simpa using hc
          subst this
          rw [hd _ hk]
          omega
      · intro _
        obtain ⟨c, r, e, hc⟩ := h3 (by omega)
        exact ⟨c, r ++ [UInt8.ofNat (48 + u % 10)], by rw [e]; rfl, hc⟩
theorem dec_zero : Lib.decDigits 0 = [48] := by
  rw [Lib.decDigits, dif_pos (by decide)]
  rfl
theorem dec_plain (u : Nat) : plainW (Lib.decDigits u) = true := by
  by_cases h : u = 0
  · subst h
    rw [dec_zero]
    rfl
  · obtain ⟨_, h2, h3⟩ := num_dec u
    obtain ⟨c, r, e, hc⟩ := h3 h
    rw [e] at h2 ⊢
    exact plainW_of hc h2
/-- a word of digits in their one form is that of its number -/
theorem dec_num_aux : ∀ (k : Nat) (l : List UInt8), l.length ≤ k → ∀ c r, l = c :: r → c ≠ 48 → allD l → Lib.decDigits (num 0 l) = l
  | 0, l, hk, c, r, e, _, _ => by
    subst e
    simp at hk
  | k + 1, l, hk, c, r, e, hc, hd => by
    rcases List.eq_nil_or_concat l with h0 | ⟨m, x, hx⟩
    · rw [h0] at e
      cases e
    · have hx' : l = m ++ [x] := by simpa using hx
      have hxd : 48 ≤ x.toNat ∧ x.toNat ≤ 57 := hd x (by rw [hx']; simp)
      have hdx : UInt8.ofNat (48 + (x.toNat - 48)) = x := by
        rw [show 48 + (x.toNat - 48) = x.toNat by omega]
        exact UInt8.ofNat_toNat
      rw [hx', num_snoc]
      cases m with
      | nil =>
        show Lib.decDigits (0 * 10 + (x.toNat - 48)) = [x]
        rw [Lib.decDigits, dif_pos (by omega), show 0 * 10 + (x.toNat - 48) = x.toNat - 48 by omega, hdx]
      | cons y m =>
        have ey : y = c := by
          rw [hx'] at e
          injection e
        subst ey
        have hm : allD (y :: m) := fun z hz => hd z (by rw [hx']; exact List.mem_append_left _ hz)
        have h1 := num_big hc hm
        have h2 : 1 ≤ 10 ^ m.length := Nat.one_le_pow _ _ (by decide)
        have ih := dec_num_aux k (y :: m) (by rw [hx'] at hk; simp at hk; simp; omega) y m rfl hc hm
        rw [Lib.decDigits, dif_neg (by omega), show (num 0 (y :: m) * 10 + (x.toNat - 48)) / 10 = num 0 (y :: m) by omega, ih,
          show (num 0 (y :: m) * 10 + (x.toNat - 48)) % 10 = x.toNat - 48 by omega, hdx]
theorem dec_num {l : List UInt8} (h : plainW l = true) : Lib.decDigits (num 0 l) = l := by
  rcases plainW_cases h with rfl | ⟨c, r, rfl, h2, h3⟩
  · exact dec_zero
  · exact dec_num_aux _ _ (Nat.le_refl _) c r rfl h2 h3

theorem itoa_pos {n : Int} (h : 0 ≤ n) : Lib.itoa n = Lib.decDigits n.toNat := if_neg (by omega)
theorem itoa_neg {n : Int} (h : n < 0) : Lib.itoa n = 45 :: Lib.decDigits n.natAbs := if_pos h
theorem itoa_le (n : Int) (h : In64 n) : (Lib.itoa n).length ≤ 21 := by
  obtain ⟨h1, h2⟩ := h
  have key : ∀ u : Nat, u ≤ 9223372036854775808 → (Lib.decDigits u).length ≤ 20 := by
    intro u hu
    by_cases hl : (Lib.decDigits u).length ≤ 20
    · exact hl
    · have hb := plainW_big (dec_plain u) 20 (by omega) (by decide)
      rw [(num_dec u).1] at hb
      have : (10 : Nat) ^ 20 = 100000000000000000000 := by decide
      omega
  by_cases hn : n < 0
  · rw [itoa_neg hn, List.length_cons]
    have := key n.natAbs (by omega)
    omega
  · rw [itoa_pos (by omega)]
    have := key n.toNat (by omega)
    omega
/-- what was written is read -/
theorem rI_itoa {n : Int} (h : In64 n) : rI (Lib.itoa n) = some n := by
  obtain ⟨h1, h2⟩ := h
  unfold rI
  by_cases hn : n < 0
  · rw [itoa_neg hn, if_pos (by rfl)]
    show (if plainW (Lib.decDigits n.natAbs) = true ∧ Lib.decDigits n.natAbs ≠ [48] ∧ num 0 (Lib.decDigits n.natAbs) ≤ 9223372036854775808 then some (-(num 0 (Lib.decDigits n.natAbs) : Int)) else none) = some n
    rw [(num_dec n.natAbs).1, if_pos]
    · congr 1
      omega
    · refine ⟨dec_plain _, ?_, by omega⟩
      intro e
      have := (num_dec n.natAbs).1
      rw [e] at this
      have e0 : num 0 [48] = 0 := rfl
      omega
  · rw [itoa_pos (by omega)]
    have hp := dec_plain n.toNat
    have hh : (Lib.decDigits n.toNat).head? ≠ some 45 := by
      cases hl : Lib.decDigits n.toNat with
      | nil => simp
      | cons c r =>
        rw [hl] at hp
        have := plainW_head hp
        intro e
        have e' : c = 45 := by simpa using e
        subst e'
        exact absurd this.1 (by decide)
    rw [if_neg hh, (num_dec n.toNat).1, if_pos ⟨hp, by omega⟩]
    congr 1
    omega
/-- what was read was written so -/
theorem itoa_rI {l : List UInt8} {m : Int} (h : rI l = some m) : Lib.itoa m = l := by
  unfold rI at h
  split at h
  · rename_i hh
    cases l with
    | nil => simp at hh
    | cons c r =>
      have hc : c = 45 := by simpa using hh
      subst hc
      split at h
      · rename_i h1
        obtain ⟨h1, h2, h3⟩ := h1
        have e : m = -(num 0 r : Int) := by
          injection h with h
          exact h.symm
        have hr : (45 :: r).tail = r := rfl
        rw [hr] at h1 h2
        have hz : num 0 r ≠ 0 := by
          intro e0
          have := dec_num h1
          rw [e0, dec_zero] at this
          exact h2 this.symm
        rw [e, itoa_neg (by omega), show (-(num 0 r : Int)).natAbs = num 0 r by omega, dec_num h1]
      · cases h
  · split at h
    · rename_i h1
      have e : m = (num 0 l : Int) := by
        injection h with h
        exact h.symm
      rw [e, itoa_pos (by omega), show ((num 0 l : Int)).toNat = num 0 l by omega, dec_num h1.1]
    · cases h
/-- the two readers of one word -/
theorem rU_of_rI {l : List UInt8} {m : Int} (h : rI l = some m) : rU l = if m < 0 then none else some m.toNat := by
  unfold rI at h
  unfold rU
  split at h
  · rename_i hh
    cases l with
    | nil => simp at hh
    | cons c r =>
      have hc : c = 45 := by simpa using hh
      subst hc
      rw [plain_minus, if_neg (by simp)]
      split at h
      · rename_i h1
        obtain ⟨h1, h2, h3⟩ := h1
        have hr : (45 :: r).tail = r := rfl
        rw [hr] at h h1 h2
        have hz : num 0 r ≠ 0 := by
          intro e0
          have := dec_num h1
          rw [e0, dec_zero] at this
          exact h2 this.symm
        have e : m = -(num 0 r : Int) := by
          injection h with h
          exact h.symm
        rw [if_pos (by omega)]
      · cases h
  · split at h
    · rename_i h1
      have e : m = (num 0 l : Int) := by
        injection h with h
        exact h.symm
      rw [if_pos ⟨h1.1, by omega⟩, if_neg (by omega)]
      congr 1
      omega
    · cases h

/-! as the code hands them back -/
def rIv (l : List UInt8) : Int := (rI l).getD 0
def rIc (l : List UInt8) : Int := if (rI l).isSome then 0 else 10
def rUv (l : List UInt8) : Int := ((rU l).getD 0 : Nat)
def rUc (l : List UInt8) : Int := if (rU l).isSome then 0 else 10
theorem rIv_in (l : List UInt8) : In64 (rIv l) := by
  unfold rIv
  cases h : rI l with
  | none => unfold In64; simp
  | some v => exact rI_bounds h
theorem rUv_in (l : List UInt8) : 0 ≤ rUv l ∧ rUv l ≤ 18446744073709551615 := by
  unfold rUv
  cases h : rU l with
  | none => simp
  | some v =>
    unfold rU at h
    split at h
    · rename_i h1
      injection h with h
      simp only [Option.getD_some]
      omega
    · cases h
end Go.Proofs.YtakldjdohgmeiaaDoor.Pl

namespace Go.Proofs.YtakldjdohgmeiaaDoor
open Go.RowKit
set_option maxRecDepth 20000

namespace Pl
theorem ba_ext {s t : ByteArray} (h : L s = L t) : s = t := by rw [← B_L s, ← B_L t, h]
theorem get_L (s : ByteArray) (k : Nat) (h : k < s.size) : (L s)[k]? = some (s[k]'h) := by
  rw [L_get s k h, List.getD_eq_getElem?_getD]
  have h' : k < (L s).length := by rw [L_length]; exact h
  rw [List.getElem?_eq_getElem h']
  rfl
theorem get_mem (s : ByteArray) (k : Nat) (h : k < s.size) : s[k]'h ∈ L s := List.mem_of_getElem? (get_L s k h)
theorem head_L (s : ByteArray) (h : 0 < s.size) : (L s).head? = some (s[0]'h) := by
  rw [← get_L s 0 h, List.head?_eq_getElem?]
theorem plain_no {l : List UInt8} {c : UInt8} (hm : c ∈ l) (hc : ¬ (48 ≤ c.toNat ∧ c.toNat ≤ 57)) : plainW l = false := by
  cases h : plainW l
  · rfl
  · exact absurd ((plainW_allD h).1 c hm) hc
theorem plain_zero {l : List UInt8} (h1 : l ≠ [48]) (h2 : l.head? = some 48) : plainW l = false := by
  cases h : plainW l
  · rfl
  · rcases plainW_cases h with e | ⟨c, r, e, hc, _⟩
    · exact absurd e h1
    · rw [e] at h2
      exact absurd (by simpa using h2) hc
theorem plain_yes {l : List UInt8} {c : UInt8} (h1 : l.head? = some c) (hc : c ≠ 48) (hd : allD l) : plainW l = true := by
  cases l with
  | nil => cases h1
  | cons x r =>
    have : x = c := by simpa using h1
    subst this
    exact plainW_of hc hd
theorem allD_get {s : ByteArray} (h : ∀ k, (hk : k < s.size) → 48 ≤ (s[k]'hk).toNat ∧ (s[k]'hk).toNat ≤ 57) : allD (L s) := by
  intro c hc
  obtain ⟨k, hk, e⟩ := List.mem_iff_getElem.1 hc
  have hk' : k < s.size := by rw [← L_length]; exact hk
  have h1 := get_L s k hk'
  rw [List.getElem?_eq_getElem hk] at h1
  injection h1 with h1
  rw [← e, h1]
  exact h k hk'
theorem toL_ne {s : ByteArray} {l : List UInt8} (h : L s ≠ l) : (s.toList == l) = false := by
  rw [ByteArray.toList_eq]
  exact beq_eq_false_iff_ne.2 h
theorem toL_eq {s : ByteArray} {l : List UInt8} (h : L s = l) : (s.toList == l) = true := by
  rw [ByteArray.toList_eq]
  exact beq_iff_eq.2 h
theorem toL_full {s : ByteArray} (h : 0 < s.size) : s.toList.isEmpty = false := by
  rw [ByteArray.toList_eq]
  have h1 := L_length s
  unfold L at h1
  cases h2 : s.data.toList with
  | nil =>
    rw [h2] at h1
    simp at h1
    omega
  | cons c r => rfl
theorem size_pos {s : ByteArray} (h : L s ≠ []) : 0 < s.size := by
  rw [← L_length]
  exact List.length_pos_iff.2 h
end Pl

theorem plain_walk (s : ByteArray) (w : World) (hs : s.size ≤ 140737488351232) :
    Calls Tryd.prog 86 #[.string s] w fun e w' => e = .returned (.bool (Pl.plainW (Pl.L s))) ∧ w = w' := by
  by_cases h48 : Pl.L s = [48]
  · obtain rfl : s = ⟨#[48]⟩ := Pl.ba_ext h48
    go_enter Tryd.func86, Tryd.ntmps86
    go_wp2_with fail
    go_ret
    exact ⟨Pl.ret1b (by rfl), rfl⟩
  · by_cases h0 : Pl.L s = []
    · obtain rfl : s = ⟨#[]⟩ := Pl.ba_ext h0
      go_enter Tryd.func86, Tryd.ntmps86
      go_wp2_with fail
      go_ret
      exact ⟨Pl.ret1b (by rfl), rfl⟩
    · have e48 := Pl.toL_ne h48
      have hsz := Pl.size_pos h0
      have he := Pl.toL_full hsz
      have H48 := Pl.hid h48
      clear h48 h0
      by_cases hc : (s[0]'hsz).toNat = 48
      · have HR := Pl.hid (Pl.plain_zero H48.out (by rw [Pl.head_L s hsz]; congr 1; exact UInt8.toNat_inj.1 hc))
        have hc' : (((s[0]'hsz).toNat : Int) == 48) = true := beq_iff_eq.2 (by omega)
        clear hc
        go_enter Tryd.func86, Tryd.ntmps86
        go_wp2_with fail
        go_ret
        exact ⟨Pl.ret1b HR.out.symm, rfl⟩
      · have hc' : (((s[0]'hsz).toNat : Int) == 48) = false := beq_eq_false_iff_ne.2 (by omega)
        have HC : Hid (s[0]'hsz ≠ 48) := fun e => hc (by rw [e]; rfl)
        clear hc
        go_enter Tryd.func86, Tryd.ntmps86
        go_wp2_with fail
        clear e48 he hc'
        go_loop [15] (fun i => ∃ k : Nat, k ≤ s.size ∧ i = .int .i64 k ∧ Hid (∀ j, (hj : j < s.size) → j < k → 48 ≤ (s[j]'hj).toNat ∧ (s[j]'hj).toNat ≤ 57)) (fun i => s.size - (intOf i).toNat)
        case atStart => exact ⟨0, Nat.zero_le _, rfl, fun j hj h => by omega⟩
        case round =>
          obtain ⟨k, hk, rfl, HK⟩ := hrel
          by_cases hlt : k < s.size
          · by_cases hd : 48 ≤ (s[k]'hlt).toNat ∧ (s[k]'hlt).toNat ≤ 57
            · obtain ⟨hd1, hd2⟩ := hd
              go_wp2_with fail
              go_round
              case rel => exact ⟨k + 1, by omega, by go_num, fun j hj h => by
                rcases Nat.lt_or_ge j k with h' | h'
                · exact HK.out j hj h'
                · obtain rfl : j = k := by omega
                  exact ⟨hd1, hd2⟩⟩
              case measure => simp [intOf]; omega
            · have HR := Pl.hid (Pl.plain_no (Pl.get_mem s k hlt) hd)
              rcases Nat.lt_or_ge (s[k]'hlt).toNat 48 with h1 | h1
              · clear hd
                go_wp2_with fail
                go_ret
                exact ⟨Pl.ret1b HR.out.symm, rfl⟩
              · have h2 : 57 < (s[k]'hlt).toNat := by omega
                clear hd
                go_wp2_with fail
                go_ret
                exact ⟨Pl.ret1b HR.out.symm, rfl⟩
          · have HR := Pl.hid (Pl.plain_yes (Pl.head_L s hsz) HC.out (Pl.allD_get fun j hj => HK.out j hj (by omega)))
            obtain rfl : k = s.size := by omega
            go_wp2_with fail
            go_ret
            exact ⟨Pl.ret1b HR.out.symm, rfl⟩
end Go.Proofs.YtakldjdohgmeiaaDoor

namespace Go.Proofs.YtakldjdohgmeiaaDoor
open Go.RowKit
set_option maxRecDepth 20000

namespace Pl
theorem dec_big {u : Nat} (h : ¬ u < 10) : Lib.decDigits u = Lib.decDigits (u / 10) ++ [UInt8.ofNat (48 + u % 10)] := by rw [Lib.decDigits, dif_neg h]
theorem dec_small {u : Nat} (h : u < 10) : Lib.decDigits u = [UInt8.ofNat (48 + u)] := by rw [Lib.decDigits, dif_pos h]
/-- one digit out of the ten -/
theorem ten_fin : ∀ k : Fin 10, (⟨#[48, 49, 50, 51, 52, 53, 54, 55, 56, 57]⟩ : ByteArray).extract k.val (k.val + 1) = B [UInt8.ofNat (48 + k.val)] := by decide +kernel
theorem ten_one {k : Nat} (h : k < 10) : (⟨#[48, 49, 50, 51, 52, 53, 54, 55, 56, 57]⟩ : ByteArray).extract k (k + 1) = B [UInt8.ofNat (48 + k)] := ten_fin ⟨k, h⟩
theorem ten_zero : (⟨#[48, 49, 50, 51, 52, 53, 54, 55, 56, 57]⟩ : ByteArray).extract 0 1 = B [UInt8.ofNat (48 + 0)] := ten_one (k := 0) (by decide)
theorem B_append (a b : List UInt8) : B a ++ B b = B (a ++ b) := by
  apply ba_ext
  rw [L_B]
  unfold L B
  rw [ByteArray.data_append]
  simp
theorem tmod_neg (u : Nat) : (-(u : Int)).tmod 10 = -((u % 10 : Nat) : Int) := by rw [Int.neg_tmod, Int.tmod_eq_emod_of_nonneg (by omega)]; omega
theorem tdiv_neg (u : Nat) : (-(u : Int)).tdiv 10 = -((u / 10 : Nat) : Int) := by rw [Int.neg_tdiv, Int.tdiv_eq_ediv_of_nonneg (by omega)]; omega
theorem tmod_pos (u : Nat) : ((u : Int)).tmod 10 = ((u % 10 : Nat) : Int) := by rw [Int.tmod_eq_emod_of_nonneg (by omega)]; omega
theorem tdiv_pos (u : Nat) : ((u : Int)).tdiv 10 = ((u / 10 : Nat) : Int) := by rw [Int.tdiv_eq_ediv_of_nonneg (by omega)]; omega
theorem dec_step {t acc : List UInt8} {u k : Nat} (h : t = Lib.decDigits u ++ acc) (hu : ¬ u < 10) (hk : k = u % 10) : t = Lib.decDigits (u / 10) ++ ([UInt8.ofNat (48 + k)] ++ acc) := by
  rw [h, dec_big hu, hk, List.append_assoc]
theorem dec_last {t acc : List UInt8} {u k : Nat} (h : t = Lib.decDigits u ++ acc) (hu : u < 10) (hk : k = u % 10) : [UInt8.ofNat (48 + k)] ++ acc = t := by
  rw [h, dec_small hu, hk, Nat.mod_eq_of_lt hu]
theorem dec_acc {n : Int} (hn : In64 n) {acc : List UInt8} {u : Nat} (h : Lib.decDigits n.natAbs = Lib.decDigits u ++ acc) : acc.length ≤ 21 := by
  have h1 := itoa_le n hn
  have h2 : (Lib.decDigits n.natAbs).length ≤ (Lib.itoa n).length := by
    by_cases h0 : n < 0
    · rw [itoa_neg h0, List.length_cons]
      omega
    · rw [itoa_pos (by omega), show n.natAbs = n.toNat by omega]
      exact Nat.le_refl _
  rw [h, List.length_append] at h2
  omega
end Pl

theorem ten_run (k : Nat) (h : k < 10) (w : World) : (Instr.slice 9 (.string ⟨#[48, 49, 50, 51, 52, 53, 54, 55, 56, 57]⟩) (some (.int .i64 (k : Int))) (some (.int .i64 ((k : Int) + 1))) none).run Tryd.prog w = .ok (.string (Pl.B [UInt8.ofNat (48 + k)])) w := by
  rw [run_slice_string w 9 _ .i64 .i64 (k : Int) ((k : Int) + 1) Tryd.underlying9 (by omega) (by omega) (by show _ ≤ (10 : Int); omega)]
  rw [← Pl.ten_one h]
  congr 3
end Go.Proofs.YtakldjdohgmeiaaDoor

namespace Go.Proofs.YtakldjdohgmeiaaDoor
open Go.RowKit
set_option maxRecDepth 20000

namespace Pl
/-- what a digit of sixteen says; 16: it is none -/
def hexV (c : Int) : Int := if 48 ≤ c ∧ c ≤ 57 then c - 48 else if 97 ≤ c ∧ c ≤ 102 then c - 87 else if 65 ≤ c ∧ c ≤ 70 then c - 55 else 16
theorem hexV_bd (c : Int) : 0 ≤ hexV c ∧ hexV c ≤ 16 := by unfold hexV; (repeat' split) <;> omega
theorem hex_or_fin : ∀ x : Fin 16, ∀ y : Fin 16, bits BinOp.or IntKind.u8 ((x.val : Int) * 16) (y.val : Int) = (x.val : Int) * 16 + y.val := by decide +kernel
theorem hex_or (x y : Int) (x0 : 0 ≤ x) (x1 : x < 16) (y0 : 0 ≤ y) (y1 : y < 16) : bits BinOp.or IntKind.u8 (x * 16) y = x * 16 + y := by
  obtain ⟨a, rfl⟩ := Int.eq_ofNat_of_zero_le x0
  obtain ⟨b, rfl⟩ := Int.eq_ofNat_of_zero_le y0
  exact hex_or_fin ⟨a, by omega⟩ ⟨b, by omega⟩
def hexU (c : UInt8) : Int := hexV (c.toNat : Int)
/-- the byte behind a backslash -/
def esc (c : UInt8) : UInt8 := if c = 110 then 10 else if c = 114 then 13 else if c = 116 then 9 else c
/-- two digits of sixteen stand ahead -/
def two (l : List UInt8) : Bool := match l with
  | a :: b :: _ => decide (hexU a < 16) && decide (hexU b < 16)
  | _ => false
def twoV (l : List UInt8) : UInt8 := match l with
  | a :: b :: _ => ofI (hexU a * 16 + hexU b)
  | _ => 0
/-- a word between double quotes, behind the first: its bytes, and how many bytes it takes; by fuel -/
def dbl : Nat → List UInt8 → Option (List UInt8 × Nat)
  | 0, _ => none
  | _, [] => none
  | f + 1, c :: r =>
    if c = 34 then some ([], 1)
    else if c = 92 then
      match r with
      | [] => none
      | d :: r2 =>
        if d = 120 ∧ two r2 = true then (dbl f (r2.drop 2)).map fun p => (twoV r2 :: p.1, p.2 + 4)
        else (dbl f r2).map fun p => (esc d :: p.1, p.2 + 2)
    else (dbl f r).map fun p => (c :: p.1, p.2 + 1)
/-- a word between single quotes, behind the first -/
def sgl : Nat → List UInt8 → Option (List UInt8 × Nat)
  | 0, _ => none
  | _, [] => none
  | f + 1, c :: r =>
    if c = 39 then some ([], 1)
    else if c = 92 ∧ r.head? = some 39 then (sgl f (r.drop 1)).map fun p => (39 :: p.1, p.2 + 2)
    else (sgl f r).map fun p => (c :: p.1, p.2 + 1)
theorem drop_get (s : ByteArray) (i : Nat) (h : i < s.size) : (L s).drop i = s[i]'h :: (L s).drop (i + 1) := by
  have h' : i < (L s).length := by rw [L_length]; exact h
  rw [List.drop_eq_getElem_cons h']
  congr 1
theorem drop_end (s : ByteArray) (i : Nat) (h : s.size ≤ i) : (L s).drop i = [] := List.drop_eq_nil_iff.2 (by rw [L_length]; exact h)
end Pl

theorem hex_walk (c : Int) (w : World) (h0 : 0 ≤ c) (h1 : c ≤ 255) :
    Calls Tryd.prog 70 #[.int .u8 c] w fun e w' => e = .returned (.int .u8 (Pl.hexV c)) ∧ w = w' := by
  have HR : Hid (Pl.hexV c = if 48 ≤ c ∧ c ≤ 57 then c - 48 else if 97 ≤ c ∧ c ≤ 102 then c - 87 else if 65 ≤ c ∧ c ≤ 70 then c - 55 else 16) := rfl
  rcases (by omega : (48 ≤ c ∧ c ≤ 57) ∨ (97 ≤ c ∧ c ≤ 102) ∨ (65 ≤ c ∧ c ≤ 70) ∨ c < 48 ∨ (57 < c ∧ c < 65) ∨ (70 < c ∧ c < 97) ∨ 102 < c) with ⟨a, b⟩ | ⟨a, b⟩ | ⟨a, b⟩ | a | ⟨a, b⟩ | ⟨a, b⟩ | a
  all_goals
    go_enter Tryd.func70, Tryd.ntmps70
    go_wp2
    go_ret
    refine ⟨Pl.ret1i ?_, rfl⟩
    rw [HR.out]
    (repeat' split) <;> omega

theorem blank_walk (c : Int) (w : World) (h0 : 0 ≤ c) (h1 : c ≤ 255) :
    Calls Tryd.prog 56 #[.int .u8 c] w fun e w' => e = .returned (.bool (c == 32 || c == 9)) ∧ w = w' := by
  rcases Decidable.em (c = 32) with rfl | a
  · go_enter Tryd.func56, Tryd.ntmps56
    go_wp2
    go_ret
    exact ⟨rfl, rfl⟩
  · have e1 : (c == 32) = false := beq_eq_false_iff_ne.2 a
    go_enter Tryd.func56, Tryd.ntmps56
    go_wp2
    go_ret
    exact ⟨Pl.ret1b (by rw [e1]; rfl), rfl⟩
end Go.Proofs.YtakldjdohgmeiaaDoor

namespace Go.Proofs.YtakldjdohgmeiaaDoor
open Go.RowKit
set_option maxRecDepth 20000

namespace Pl
theorem map_snoc (o : Option (List UInt8 × Nat)) (acc : List UInt8) (c : UInt8) (n k : Nat) :
    (o.map fun p => (c :: p.1, p.2 + k)).map (fun p => (acc ++ p.1, n + p.2)) = o.map fun p => ((acc ++ [c]) ++ p.1, n + k + p.2) := by
  cases o with
  | none => rfl
  | some p =>
    simp
    omega
/-- how a quoted word is told -/
def qW (o : Option (List UInt8 × Nat)) : ByteArray := match o with | some p => B p.1 | none => ⟨#[]⟩
def qN (o : Option (List UInt8 × Nat)) : Int := match o with | some p => (p.2 : Int) + 1 | none => -1
def sgO (s : ByteArray) : Option (List UInt8 × Nat) := sgl s.size ((L s).drop 1)
def dbO (s : ByteArray) : Option (List UInt8 × Nat) := dbl s.size ((L s).drop 1)
/-- what was read so far -/
def far (o : Option (List UInt8 × Nat)) (acc : List UInt8) (i : Nat) : Option (List UInt8 × Nat) := o.map fun p => (acc ++ p.1, i - 1 + p.2)
theorem far_start (o : Option (List UInt8 × Nat)) : far o [] 1 = o := by
  unfold far
  cases o with
  | none => rfl
  | some p => simp
theorem far_done {o : Option (List UInt8 × Nat)} {acc : List UInt8} {i : Nat} (h : o = far (some ([], 1)) acc i) (hi : 1 ≤ i) : qW o = B acc ∧ qN o = (i : Int) + 1 := by
  rw [h]
  unfold far qW qN
  simp
  omega
theorem far_none {o : Option (List UInt8 × Nat)} {acc : List UInt8} {i : Nat} (h : o = far none acc i) : qW o = ⟨#[]⟩ ∧ qN o = -1 := by
  rw [h]
  exact ⟨rfl, rfl⟩
theorem far_step {o q : Option (List UInt8 × Nat)} {acc : List UInt8} {c : UInt8} {i k : Nat} (h : o = far (q.map fun p => (c :: p.1, p.2 + k)) acc i) (hi : 1 ≤ i) : o = far q (acc ++ [c]) (i + k) := by
  rw [h]
  unfold far
  rw [map_snoc]
  cases q with
  | none => rfl
  | some p =>
    simp
    omega
theorem sgl_q (f : Nat) (r : List UInt8) : sgl (f + 1) (39 :: r) = some ([], 1) := by simp [sgl]
theorem sgl_e (f : Nat) (r : List UInt8) : sgl (f + 1) (92 :: 39 :: r) = (sgl f r).map fun p => (39 :: p.1, p.2 + 2) := by simp [sgl]
theorem sgl_c (f : Nat) (c : UInt8) (r : List UInt8) (h1 : c ≠ 39) (h2 : ¬ (c = 92 ∧ r.head? = some 39)) : sgl (f + 1) (c :: r) = (sgl f r).map fun p => (c :: p.1, p.2 + 1) := by
  simp only [sgl]
  rw [if_neg h1, if_neg h2]
theorem sgl_nil (f : Nat) : sgl f [] = none := by cases f <;> rfl
theorem u8_no {c : UInt8} {n : Nat} {d : UInt8} (h : c.toNat ≠ n) (hd : d.toNat = n) : c ≠ d := fun e => h (by rw [e]; exact hd)
theorem u8_is {c : UInt8} {n : Nat} {d : UInt8} (h : c.toNat = n) (hd : d.toNat = n) : c = d := UInt8.toNat_inj.1 (h.trans hd.symm)
end Pl

theorem Mm.ownB_nil (w : World) (b : Nat) : Mm.OwnB w b (.slice none 0 0) [] := ⟨rfl, .inl ⟨rfl, rfl⟩⟩

theorem single_walk (s : ByteArray) (w : World) (hs : s.size ≤ 140737488351232) :
    Calls Tryd.prog 58 #[.string s] w fun e w' => e = .returned (.tuple #[.string (Pl.qW (Pl.sgO s)), .int .i64 (Pl.qN (Pl.sgO s))]) ∧ Below w.heap.size w w' := by
  go_enter Tryd.func58, Tryd.ntmps58
  go_wp2_with fail
  go_loopw [4, 5] (fun bv iv wr => ∃ (i f : Nat) (acc : List UInt8), iv = .int .i64 i ∧ 1 ≤ i ∧ (i ≤ s.size ∨ i = 1) ∧ s.size ≤ f + i ∧ acc.length + 1 ≤ i ∧ Hid (Mm.OwnB wr w.heap.size bv acc) ∧ Hid (Pl.sgO s = Pl.far (Pl.sgl f ((Pl.L s).drop i)) acc i) ∧ Hid (Below w.heap.size w wr))
    (fun _ i _ => s.size - (intOf i).toNat)
  case atStart => exact ⟨1, s.size, [], rfl, Nat.le_refl _, .inr rfl, by omega, Nat.le_refl _, Mm.ownB_nil _ _, (Pl.far_start _).symm, Below.refl _ _⟩
  case round =>
    obtain ⟨i, f, acc, rfl, hi1, hi2, hf, hacc, HO, HQ, HB⟩ := hrel
    by_cases hlt : i < s.size
    · obtain ⟨f, rfl⟩ : ∃ g, f = g + 1 := ⟨f - 1, by omega⟩
      have hq := HQ.out
      rw [Pl.drop_get s i hlt] at hq
      by_cases h39 : (s[i]'hlt).toNat = 39
      · have e39 : (((s[i]'hlt).toNat : Int) == 39) = true := beq_iff_eq.2 (by omega)
        rw [Pl.u8_is (d := 39) h39 rfl, Pl.sgl_q] at hq
        have HR := Pl.hid (Pl.far_done hq hi1)
        have hcv := Mm.run_str _ _ _ _ HO.out
        clear hq h39 hi2 hf
        go_wp2_with fail
        go_ret2
        exact ⟨Pl.ret2si HR.out.1.symm HR.out.2.symm, HB.out⟩
      · have e39 : (((s[i]'hlt).toNat : Int) == 39) = false := beq_eq_false_iff_ne.2 (by omega)
        by_cases h92 : (s[i]'hlt).toNat = 92
        · have e92 : (((s[i]'hlt).toNat : Int) == 92) = true := beq_iff_eq.2 (by omega)
          by_cases h1 : i + 1 < s.size
          · rw [Pl.drop_get s (i + 1) h1] at hq
            by_cases h39' : (s[i + 1]'h1).toNat = 39
            · have e39' : (((s[i + 1]'h1).toNat : Int) == 39) = true := beq_iff_eq.2 (by omega)
              rw [Pl.u8_is (d := 92) h92 rfl, Pl.u8_is (c := s[i + 1]'h1) (d := 39) h39' rfl, Pl.sgl_e] at hq
              have HR := Pl.hid (Pl.far_step hq hi1)
              have HC := Pl.hid (Pl.u8_is (c := s[i + 1]'h1) (d := 39) h39' rfl)
              rw [← HC.out] at HR
              clear hq h39 h92 h39'
              go_wp2_with (at_builtin; refine Mm.wp_app1 _ rfl _ _ (by rfl) w.heap.size _ _ (s[i + 1]'h1) (by rfl) (by rfl) HO.out (by omega) HB.out.size ?_; intro v1 w1 hown1 hb1)
              have HO1 := Pl.hid hown1
              have HB1 := Pl.hid (HB.out.trans hb1)
              clear hown1 hb1
              go_roundw
              case rel => exact ⟨i + 2, f, acc ++ [s[i + 1]'h1], by go_num, by omega, by omega, by omega, by simp; omega, HO1, HR, HB1⟩
              case measure => simp [intOf]; omega
            · have e39' : (((s[i + 1]'h1).toNat : Int) == 39) = false := beq_eq_false_iff_ne.2 (by omega)
              rw [Pl.sgl_c f (s[i]'hlt) _ (Pl.u8_no (d := 39) h39 rfl) (fun h => h39' (by have h2 := h.2; rw [List.head?_cons] at h2; injection h2 with h2; rw [h2]; rfl))] at hq
              rw [← Pl.drop_get s (i + 1) h1] at hq
              have HR := Pl.hid (Pl.far_step hq hi1)
              clear hq h39 h92 h39'
              go_wp2_with (at_builtin; refine Mm.wp_app1 _ rfl _ _ (by rfl) w.heap.size _ _ (s[i]'hlt) (by rfl) (by rfl) HO.out (by omega) HB.out.size ?_; intro v1 w1 hown1 hb1)
              have HO1 := Pl.hid hown1
              have HB1 := Pl.hid (HB.out.trans hb1)
              clear hown1 hb1
              go_roundw
              case rel => exact ⟨i + 1, f, acc ++ [s[i]'hlt], by go_num, by omega, by omega, by omega, by simp; omega, HO1, HR, HB1⟩
              case measure => simp [intOf]; omega
          · rw [Pl.sgl_c f (s[i]'hlt) ((Pl.L s).drop (i + 1)) (Pl.u8_no (d := 39) h39 rfl) (fun h => by rw [Pl.drop_end s (i + 1) (by omega)] at h; cases h.2)] at hq
            have HR := Pl.hid (Pl.far_step hq hi1)
            clear hq h39 h92
            go_wp2_with (at_builtin; refine Mm.wp_app1 _ rfl _ _ (by rfl) w.heap.size _ _ (s[i]'hlt) (by rfl) (by rfl) HO.out (by omega) HB.out.size ?_; intro v1 w1 hown1 hb1)
            have HO1 := Pl.hid hown1
            have HB1 := Pl.hid (HB.out.trans hb1)
            clear hown1 hb1
            go_roundw
            case rel => exact ⟨i + 1, f, acc ++ [s[i]'hlt], by go_num, by omega, by omega, by omega, by simp; omega, HO1, HR, HB1⟩
            case measure => simp [intOf]; omega
        · have e92 : (((s[i]'hlt).toNat : Int) == 92) = false := beq_eq_false_iff_ne.2 (by omega)
          rw [Pl.sgl_c f (s[i]'hlt) ((Pl.L s).drop (i + 1)) (Pl.u8_no (d := 39) h39 rfl) (fun h => h92 (by rw [h.1]; rfl))] at hq
          have HR := Pl.hid (Pl.far_step hq hi1)
          clear hq h39 h92
          go_wp2_with (at_builtin; refine Mm.wp_app1 _ rfl _ _ (by rfl) w.heap.size _ _ (s[i]'hlt) (by rfl) (by rfl) HO.out (by omega) HB.out.size ?_; intro v1 w1 hown1 hb1)
          have HO1 := Pl.hid hown1
          have HB1 := Pl.hid (HB.out.trans hb1)
          clear hown1 hb1
          go_roundw
          case rel => exact ⟨i + 1, f, acc ++ [s[i]'hlt], by go_num, by omega, by omega, by omega, by simp; omega, HO1, HR, HB1⟩
          case measure => simp [intOf]; omega
    · have hq := HQ.out
      rw [Pl.drop_end s i (by omega), Pl.sgl_nil] at hq
      have HR := Pl.hid (Pl.far_none hq)
      clear hq
      go_wp2_with fail
      go_ret2
      exact ⟨Pl.ret2si HR.out.1.symm HR.out.2.symm, HB.out⟩
end Go.Proofs.YtakldjdohgmeiaaDoor

namespace Go.Proofs.YtakldjdohgmeiaaDoor
open Go.RowKit
set_option maxRecDepth 20000

namespace Pl
theorem dbl_q (f : Nat) (r : List UInt8) : dbl (f + 1) (34 :: r) = some ([], 1) := by simp [dbl]
theorem dbl_end (f : Nat) : dbl (f + 1) [92] = none := by simp [dbl]
theorem dbl_two (f : Nat) (r : List UInt8) (h : two r = true) : dbl (f + 1) (92 :: 120 :: r) = (dbl f (r.drop 2)).map fun p => (twoV r :: p.1, p.2 + 4) := by simp [dbl, h]
theorem dbl_esc (f : Nat) (d : UInt8) (r : List UInt8) (h : ¬ (d = 120 ∧ two r = true)) : dbl (f + 1) (92 :: d :: r) = (dbl f r).map fun p => (esc d :: p.1, p.2 + 2) := by
  simp only [dbl]
  rw [if_neg (by decide), if_pos (by trivial), if_neg h]
theorem dbl_c (f : Nat) (c : UInt8) (r : List UInt8) (h1 : c ≠ 34) (h2 : c ≠ 92) : dbl (f + 1) (c :: r) = (dbl f r).map fun p => (c :: p.1, p.2 + 1) := by
  simp only [dbl]
  rw [if_neg h1, if_neg h2]
theorem dbl_nil (f : Nat) : dbl f [] = none := by cases f <;> rfl
theorem two_short (s : ByteArray) (i : Nat) (h : ¬ i + 2 < s.size) : two ((L s).drop (i + 1)) = false := by
  by_cases h0 : i + 1 < s.size
  · rw [drop_get s (i + 1) h0, drop_end s (i + 1 + 1) (by omega)]
    rfl
  · rw [drop_end s (i + 1) (by omega)]
    rfl
theorem two_at (s : ByteArray) (i : Nat) (h : i + 2 < s.size) : two ((L s).drop (i + 1)) = (decide (hexV ((s[i + 1]'(by omega)).toNat : Int) < 16) && decide (hexV ((s[i + 2]'h).toNat : Int) < 16)) := by
  rw [drop_get s (i + 1) (by omega), drop_get s (i + 1 + 1) h]
  rfl
theorem twoV_at (s : ByteArray) (i : Nat) (h : i + 2 < s.size) : twoV ((L s).drop (i + 1)) = ofI (hexV ((s[i + 1]'(by omega)).toNat : Int) * 16 + hexV ((s[i + 2]'h).toNat : Int)) := by
  rw [drop_get s (i + 1) (by omega), drop_get s (i + 1 + 1) h]
  rfl
theorem esc_110 : esc 110 = 10 := rfl
theorem esc_114 : esc 114 = 13 := rfl
theorem esc_116 : esc 116 = 9 := rfl
theorem esc_c {c : UInt8} (h1 : c ≠ 110) (h2 : c ≠ 114) (h3 : c ≠ 116) : esc c = c := by unfold esc; rw [if_neg h1, if_neg h2, if_neg h3]
end Pl
theorem Mm.OwnB.drewN {w : World} {b : Nat} {v : Value} {l : List UInt8} (h : Mm.OwnB w b v l) (n : Nat) : Mm.OwnB (w.drewN n) b v l := h

theorem hex_byte (c : UInt8) (w : World) : Calls Tryd.prog 70 #[.int .u8 (c.toNat : Int)] w fun e w' => e = .returned (.int .u8 (Pl.hexV (c.toNat : Int))) ∧ w = w' :=
  hex_walk _ w (by omega) (by have := c.toNat_lt; omega)

set_option maxHeartbeats 4000000 in
theorem double_walk (s : ByteArray) (w : World) (hs : s.size ≤ 140737488351232) :
    Calls Tryd.prog 57 #[.string s] w fun e w' => e = .returned (.tuple #[.string (Pl.qW (Pl.dbO s)), .int .i64 (Pl.qN (Pl.dbO s))]) ∧ Below w.heap.size w w' := by
  go_enter Tryd.func57, Tryd.ntmps57
  go_wp2_with fail
  go_loopw [4, 5] (fun bv iv wr => ∃ (i f : Nat) (acc : List UInt8), iv = .int .i64 i ∧ 1 ≤ i ∧ (i ≤ s.size ∨ i = 1) ∧ s.size ≤ f + i ∧ acc.length + 1 ≤ i ∧ Hid (Mm.OwnB wr w.heap.size bv acc) ∧ Hid (Pl.dbO s = Pl.far (Pl.dbl f ((Pl.L s).drop i)) acc i) ∧ Hid (Below w.heap.size w wr))
    (fun _ i _ => s.size - (intOf i).toNat)
  case atStart => exact ⟨1, s.size, [], rfl, Nat.le_refl _, .inr rfl, by omega, Nat.le_refl _, Mm.ownB_nil _ _, (Pl.far_start _).symm, Below.refl _ _⟩
  case round =>
    obtain ⟨i, f, acc, rfl, hi1, hi2, hf, hacc, HO, HQ, HB⟩ := hrel
    by_cases hlt : i < s.size
    · obtain ⟨f, rfl⟩ : ∃ g, f = g + 1 := ⟨f - 1, by omega⟩
      have hq := HQ.out
      rw [Pl.drop_get s i hlt] at hq
      by_cases h34 : (s[i]'hlt).toNat = 34
      · have e34 : (((s[i]'hlt).toNat : Int) == 34) = true := beq_iff_eq.2 (by omega)
        rw [Pl.u8_is (d := 34) h34 rfl, Pl.dbl_q] at hq
        have HR := Pl.hid (Pl.far_done hq hi1)
        have hcv := Mm.run_str _ _ _ _ HO.out
        clear hq h34 hi2 hf
        go_wp2_with fail
        go_ret2
        exact ⟨Pl.ret2si HR.out.1.symm HR.out.2.symm, HB.out⟩
      · have e34 : (((s[i]'hlt).toNat : Int) == 34) = false := beq_eq_false_iff_ne.2 (by omega)
        by_cases h92 : (s[i]'hlt).toNat = 92
        · have e92 : (((s[i]'hlt).toNat : Int) == 92) = true := beq_iff_eq.2 (by omega)
          rw [Pl.u8_is (d := 92) h92 rfl] at hq
          by_cases h1 : i + 1 < s.size
          · rw [Pl.drop_get s (i + 1) h1] at hq
            by_cases k110 : (s[i + 1]'h1).toNat = 110
            · have x110 : (((s[i + 1]'h1).toNat : Int) == 110) = true := beq_iff_eq.2 (by omega)
              rw [Pl.u8_is (c := s[i + 1]'h1) (d := 110) k110 rfl, Pl.dbl_esc _ _ _ (fun h => absurd h.1 (by decide)), Pl.esc_110] at hq
              have HR := Pl.hid (Pl.far_step hq hi1)
              clear hq h34 h92 k110
              go_wp2_with (at_builtin; refine Mm.wp_appI _ rfl _ _ (by rfl) w.heap.size _ _ (10) (by rfl) (by rfl) HO.out (by omega) (by omega) (by omega) HB.out.size ?_; intro v1 w1 hown1 hb1)
              have HO1 := Pl.hid hown1
              have HB1 := Pl.hid (HB.out.trans hb1)
              clear hown1 hb1
              go_roundw
              case rel => exact ⟨i + 2, f, acc ++ [10], by go_num, by omega, by omega, by omega, by simp; omega, HO1, HR, HB1⟩
              case measure => simp [intOf]; omega
            · have x110 : (((s[i + 1]'h1).toNat : Int) == 110) = false := beq_eq_false_iff_ne.2 (by omega)
              by_cases k114 : (s[i + 1]'h1).toNat = 114
              · have x114 : (((s[i + 1]'h1).toNat : Int) == 114) = true := beq_iff_eq.2 (by omega)
                rw [Pl.u8_is (c := s[i + 1]'h1) (d := 114) k114 rfl, Pl.dbl_esc _ _ _ (fun h => absurd h.1 (by decide)), Pl.esc_114] at hq
                have HR := Pl.hid (Pl.far_step hq hi1)
                clear hq h34 h92 k114
                go_wp2_with (at_builtin; refine Mm.wp_appI _ rfl _ _ (by rfl) w.heap.size _ _ (13) (by rfl) (by rfl) HO.out (by omega) (by omega) (by omega) HB.out.size ?_; intro v1 w1 hown1 hb1)
                have HO1 := Pl.hid hown1
                have HB1 := Pl.hid (HB.out.trans hb1)
                clear hown1 hb1
                go_roundw
                case rel => exact ⟨i + 2, f, acc ++ [13], by go_num, by omega, by omega, by omega, by simp; omega, HO1, HR, HB1⟩
                case measure => simp [intOf]; omega
              · have x114 : (((s[i + 1]'h1).toNat : Int) == 114) = false := beq_eq_false_iff_ne.2 (by omega)
                by_cases k116 : (s[i + 1]'h1).toNat = 116
                · have x116 : (((s[i + 1]'h1).toNat : Int) == 116) = true := beq_iff_eq.2 (by omega)
                  rw [Pl.u8_is (c := s[i + 1]'h1) (d := 116) k116 rfl, Pl.dbl_esc _ _ _ (fun h => absurd h.1 (by decide)), Pl.esc_116] at hq
                  have HR := Pl.hid (Pl.far_step hq hi1)
                  clear hq h34 h92 k116
                  go_wp2_with (at_builtin; refine Mm.wp_appI _ rfl _ _ (by rfl) w.heap.size _ _ (9) (by rfl) (by rfl) HO.out (by omega) (by omega) (by omega) HB.out.size ?_; intro v1 w1 hown1 hb1)
                  have HO1 := Pl.hid hown1
                  have HB1 := Pl.hid (HB.out.trans hb1)
                  clear hown1 hb1
                  go_roundw
                  case rel => exact ⟨i + 2, f, acc ++ [9], by go_num, by omega, by omega, by omega, by simp; omega, HO1, HR, HB1⟩
                  case measure => simp [intOf]; omega
                · have x116 : (((s[i + 1]'h1).toNat : Int) == 116) = false := beq_eq_false_iff_ne.2 (by omega)
                  by_cases k120 : (s[i + 1]'h1).toNat = 120
                  · have x120 : (((s[i + 1]'h1).toNat : Int) == 120) = true := beq_iff_eq.2 (by omega)
                    by_cases h3 : i + 1 + 2 < s.size
                    · have ht := Pl.two_at s (i + 1) h3
                      by_cases y1 : Pl.hexV ((s[i + 1 + 1]'(by omega)).toNat : Int) < 16
                      · by_cases y2 : Pl.hexV ((s[i + 1 + 2]'h3).toNat : Int) < 16
                        · have ht2 : Pl.two ((Pl.L s).drop (i + 1 + 1)) = true := by rw [ht]; exact Bool.and_eq_true_iff.2 ⟨decide_eq_true y1, decide_eq_true y2⟩
                          rw [Pl.u8_is (c := s[i + 1]'h1) (d := 120) k120 rfl, Pl.dbl_two _ _ ht2, Pl.twoV_at s (i + 1) h3, List.drop_drop] at hq
                          have HR := Pl.hid (Pl.far_step hq hi1)
                          obtain ⟨z1, _⟩ := Pl.hexV_bd ((s[i + 1 + 1]'(by omega)).toNat : Int)
                          obtain ⟨z2, _⟩ := Pl.hexV_bd ((s[i + 1 + 2]'h3).toNat : Int)
                          clear hq h34 h92 k110 k114 k116 k120 ht ht2
                          go_wp2_with (go_at_call 70; refine (hex_byte _ _).mono ?_; rintro e w' ⟨rfl, rfl⟩)
                          go_quiet ((go_at_call 70; exact Calls.quiet_of_same ((hex_byte _ _).mono fun e w' ⟨h, h'⟩ => ⟨h, h'.symm⟩)))
                          have HOr := Pl.hid (Pl.hex_or _ _ z1 y1 z2 y2)
                          rw [HOr.out]
                          have HO' : Hid (Mm.OwnB (wr.drewN nq) w.heap.size u4 acc) := HO.out.drewN _
                          have HBq := Pl.hid (HB.out.trans (Mm.below_drewN (B := w.heap.size) wr nq))
                          go_wp2_with (at_builtin; refine Mm.wp_appI _ rfl _ _ (by rfl) w.heap.size _ _ (Pl.hexV ((s[i + 1 + 1]'(by omega)).toNat : Int) * 16 + Pl.hexV ((s[i + 1 + 2]'h3).toNat : Int)) (by rfl) (by rfl) HO'.out (by omega) (by omega) (by omega) HBq.out.size ?_; intro v1 w1 hown1 hb1)
                          have HO1 := Pl.hid hown1
                          have HB1 := Pl.hid (HBq.out.trans hb1)
                          clear hown1 hb1
                          go_roundw
                          case rel => exact ⟨i + 4, f, acc ++ [Pl.ofI (Pl.hexV ((s[i + 1 + 1]'(by omega)).toNat : Int) * 16 + Pl.hexV ((s[i + 1 + 2]'h3).toNat : Int))], by go_num, by omega, by omega, by omega, by simp; omega, HO1, HR, HB1⟩
                          case measure => simp [intOf]; omega
                        · have ht2 : Pl.two ((Pl.L s).drop (i + 1 + 1)) = false := by rw [ht, decide_eq_false y2, Bool.and_false]
                          clear ht
                          rw [Pl.dbl_esc _ _ _ (fun h => absurd h.2 (by rw [ht2]; decide)), Pl.esc_c (Pl.u8_no (d := 110) k110 rfl) (Pl.u8_no (d := 114) k114 rfl) (Pl.u8_no (d := 116) k116 rfl)] at hq
                          have HR := Pl.hid (Pl.far_step hq hi1)
                          clear hq h34 h92 k110 k114 k116 k120
                          go_wp2_with (first | (go_at_call 70; refine (hex_byte _ _).mono ?_; rintro e w' ⟨rfl, rfl⟩) | (at_builtin; refine Mm.wp_app1 _ rfl _ _ (by rfl) w.heap.size _ _ (s[i + 1]'h1) (by rfl) (by rfl) HO.out (by omega) HB.out.size ?_; intro v1 w1 hown1 hb1))
                          have HO1 := Pl.hid hown1
                          have HB1 := Pl.hid (HB.out.trans hb1)
                          clear hown1 hb1
                          go_roundw
                          case rel => exact ⟨i + 2, f, acc ++ [s[i + 1]'h1], by go_num, by omega, by omega, by omega, by simp; omega, HO1, HR, HB1⟩
                          case measure => simp [intOf]; omega
                      · have ht2 : Pl.two ((Pl.L s).drop (i + 1 + 1)) = false := by rw [ht, decide_eq_false y1]; rfl
                        clear ht
                        rw [Pl.dbl_esc _ _ _ (fun h => absurd h.2 (by rw [ht2]; decide)), Pl.esc_c (Pl.u8_no (d := 110) k110 rfl) (Pl.u8_no (d := 114) k114 rfl) (Pl.u8_no (d := 116) k116 rfl)] at hq
                        have HR := Pl.hid (Pl.far_step hq hi1)
                        clear hq h34 h92 k110 k114 k116 k120
                        go_wp2_with (first | (go_at_call 70; refine (hex_byte _ _).mono ?_; rintro e w' ⟨rfl, rfl⟩) | (at_builtin; refine Mm.wp_app1 _ rfl _ _ (by rfl) w.heap.size _ _ (s[i + 1]'h1) (by rfl) (by rfl) HO.out (by omega) HB.out.size ?_; intro v1 w1 hown1 hb1))
                        have HO1 := Pl.hid hown1
                        have HB1 := Pl.hid (HB.out.trans hb1)
                        clear hown1 hb1
                        go_roundw
                        case rel => exact ⟨i + 2, f, acc ++ [s[i + 1]'h1], by go_num, by omega, by omega, by omega, by simp; omega, HO1, HR, HB1⟩
                        case measure => simp [intOf]; omega
                    · have ht2 := Pl.two_short s (i + 1) h3
                      rw [Pl.dbl_esc _ _ _ (fun h => absurd h.2 (by rw [ht2]; decide)), Pl.esc_c (Pl.u8_no (d := 110) k110 rfl) (Pl.u8_no (d := 114) k114 rfl) (Pl.u8_no (d := 116) k116 rfl)] at hq
                      have HR := Pl.hid (Pl.far_step hq hi1)
                      clear hq h34 h92 k110 k114 k116 k120
                      go_wp2_with (first | (go_at_call 70; refine (hex_byte _ _).mono ?_; rintro e w' ⟨rfl, rfl⟩) | (at_builtin; refine Mm.wp_app1 _ rfl _ _ (by rfl) w.heap.size _ _ (s[i + 1]'h1) (by rfl) (by rfl) HO.out (by omega) HB.out.size ?_; intro v1 w1 hown1 hb1))
                      have HO1 := Pl.hid hown1
                      have HB1 := Pl.hid (HB.out.trans hb1)
                      clear hown1 hb1
                      go_roundw
                      case rel => exact ⟨i + 2, f, acc ++ [s[i + 1]'h1], by go_num, by omega, by omega, by omega, by simp; omega, HO1, HR, HB1⟩
                      case measure => simp [intOf]; omega
                  · have x120 : (((s[i + 1]'h1).toNat : Int) == 120) = false := beq_eq_false_iff_ne.2 (by omega)
                    rw [Pl.dbl_esc _ _ _ (fun h => k120 (by rw [h.1]; rfl)), Pl.esc_c (Pl.u8_no (d := 110) k110 rfl) (Pl.u8_no (d := 114) k114 rfl) (Pl.u8_no (d := 116) k116 rfl)] at hq
                    have HR := Pl.hid (Pl.far_step hq hi1)
                    clear hq h34 h92 k110 k114 k116 k120
                    go_wp2_with (at_builtin; refine Mm.wp_app1 _ rfl _ _ (by rfl) w.heap.size _ _ (s[i + 1]'h1) (by rfl) (by rfl) HO.out (by omega) HB.out.size ?_; intro v1 w1 hown1 hb1)
                    have HO1 := Pl.hid hown1
                    have HB1 := Pl.hid (HB.out.trans hb1)
                    clear hown1 hb1
                    go_roundw
                    case rel => exact ⟨i + 2, f, acc ++ [s[i + 1]'h1], by go_num, by omega, by omega, by omega, by simp; omega, HO1, HR, HB1⟩
                    case measure => simp [intOf]; omega
          · rw [Pl.drop_end s (i + 1) (by omega), Pl.dbl_end] at hq
            have HR := Pl.hid (Pl.far_none hq)
            have he : (((i : Int) + 1) == (s.size : Int)) = true := beq_iff_eq.2 (by omega)
            clear hq h34 h92
            go_wp2_with fail
            go_ret2
            exact ⟨Pl.ret2si HR.out.1.symm HR.out.2.symm, HB.out⟩
        · have e92 : (((s[i]'hlt).toNat : Int) == 92) = false := beq_eq_false_iff_ne.2 (by omega)
          rw [Pl.dbl_c f (s[i]'hlt) ((Pl.L s).drop (i + 1)) (Pl.u8_no (d := 34) h34 rfl) (Pl.u8_no (d := 92) h92 rfl)] at hq
          have HR := Pl.hid (Pl.far_step hq hi1)
          clear hq h34 h92
          go_wp2_with (at_builtin; refine Mm.wp_app1 _ rfl _ _ (by rfl) w.heap.size _ _ (s[i]'hlt) (by rfl) (by rfl) HO.out (by omega) HB.out.size ?_; intro v1 w1 hown1 hb1)
          have HO1 := Pl.hid hown1
          have HB1 := Pl.hid (HB.out.trans hb1)
          clear hown1 hb1
          go_roundw
          case rel => exact ⟨i + 1, f, acc ++ [s[i]'hlt], by go_num, by omega, by omega, by omega, by simp; omega, HO1, HR, HB1⟩
          case measure => simp [intOf]; omega
    · have hq := HQ.out
      rw [Pl.drop_end s i (by omega), Pl.dbl_nil] at hq
      have HR := Pl.hid (Pl.far_none hq)
      clear hq
      go_wp2_with fail
      go_ret2
      exact ⟨Pl.ret2si HR.out.1.symm HR.out.2.symm, HB.out⟩
end Go.Proofs.YtakldjdohgmeiaaDoor
