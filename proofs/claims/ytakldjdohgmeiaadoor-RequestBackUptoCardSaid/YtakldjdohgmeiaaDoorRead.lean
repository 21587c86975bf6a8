/- Plain laws on words of digits: what is read as a whole number, and how a number is written. No condition beyond those that stand in each law. -/
import Derived.Test.YtakldjdohgmeiaaDoorPlain
import Derived.Lib.ParseIntBTie
import Derived.Lib.ItoaNum
namespace Go.Proofs.YtakldjdohgmeiaaDoor.Pl
open Go.RowKit

/-- a byte that is a digit -/
def isDB (c : UInt8) : Bool := decide (48 ≤ c.toNat) && decide (c.toNat ≤ 57)
/-- digits in their one form -/
def plainW (l : List UInt8) : Bool := l == [48] || (!l.isEmpty && decide (l.head? ≠ some 48) && l.all isDB)
/-- what a word of digits counts, behind what was counted -/
def num : Nat → List UInt8 → Nat
  | acc, [] => acc
  | acc, c :: r => num (acc * 10 + (c.toNat - 48)) r

def allD (l : List UInt8) : Prop := ∀ c ∈ l, 48 ≤ c.toNat ∧ c.toNat ≤ 57

theorem allD_iff (l : List UInt8) : l.all isDB = true ↔ allD l := by
  unfold allD isDB
  rw [List.all_eq_true]
  constructor
  · intro h c hc
    have := h c hc
    simpa using this
  · intro h c hc
    have := h c hc
    simpa using this

theorem num_append : ∀ (a b : List UInt8) (acc : Nat), num acc (a ++ b) = num (num acc a) b
  | [], _, _ => rfl
  | c :: a, b, acc => num_append a b (acc * 10 + (c.toNat - 48))
theorem num_snoc (l : List UInt8) (c : UInt8) : num 0 (l ++ [c]) = num 0 l * 10 + (c.toNat - 48) := by
  rw [num_append]
  rfl
theorem num_ge : ∀ (l : List UInt8) (acc : Nat), acc ≤ num acc l
  | [], _ => Nat.le_refl _
  | c :: r, acc => Nat.le_trans (by omega) (num_ge r (acc * 10 + (c.toNat - 48)))
theorem num_ge_pow : ∀ (l : List UInt8) (acc : Nat), acc * 10 ^ l.length ≤ num acc l
  | [], acc => by
    show acc * 10 ^ 0 ≤ acc
    omega
  | c :: r, acc => by
    have h := num_ge_pow r (acc * 10 + (c.toNat - 48))
    rw [List.length_cons, Nat.pow_succ, Nat.mul_comm (10 ^ r.length) 10, ← Nat.mul_assoc]
    show _ ≤ num (acc * 10 + (c.toNat - 48)) r
    have h2 : acc * 10 * 10 ^ r.length ≤ (acc * 10 + (c.toNat - 48)) * 10 ^ r.length := Nat.mul_le_mul_right _ (Nat.le_add_right _ _)
    exact Nat.le_trans h2 h
theorem num_lt : ∀ (l : List UInt8) (acc k : Nat), allD l → acc < 10 ^ k → num acc l < 10 ^ (k + l.length)
  | [], acc, k, _, h => h
  | c :: r, acc, k, hd, h => by
    have hc := hd c (by simp)
    have h' : acc * 10 + (c.toNat - 48) < 10 ^ (k + 1) := by
      rw [Nat.pow_succ]
      omega
    have := num_lt r _ (k + 1) (fun x hx => hd x (by simp [hx])) h'
    rw [List.length_cons, show k + (r.length + 1) = k + 1 + r.length by omega]
    exact this

theorem plainW_cases {l : List UInt8} (h : plainW l = true) : l = [48] ∨ ∃ c r, l = c :: r ∧ c ≠ 48 ∧ allD l := by
  unfold plainW at h
  rw [Bool.or_eq_true] at h
  rcases h with h | h
  · exact Or.inl (by simpa using h)
  · rw [Bool.and_eq_true, Bool.and_eq_true] at h
    obtain ⟨⟨h1, h2⟩, h3⟩ := h
    cases l with
    | nil => simp at h1
    | cons c r => exact Or.inr ⟨c, r, rfl, by simpa using h2, (allD_iff _).1 h3⟩
theorem plainW_allD {l : List UInt8} (h : plainW l = true) : allD l ∧ l ≠ [] := by
  rcases plainW_cases h with rfl | ⟨c, r, rfl, _, h3⟩
  · refine ⟨?_, by simp⟩
    intro c hc
    simp at hc
    subst hc
    decide
  · exact ⟨h3, by simp⟩
theorem plainW_of {c : UInt8} {r : List UInt8} (h : c ≠ 48) (hd : allD (c :: r)) : plainW (c :: r) = true := by
  unfold plainW
  rw [Bool.or_eq_true]
  right
  rw [Bool.and_eq_true, Bool.and_eq_true]
  exact ⟨⟨rfl, by simpa using h⟩, (allD_iff _).2 hd⟩
theorem plainW_head {c : UInt8} {r : List UInt8} (h : plainW (c :: r) = true) : 48 ≤ c.toNat ∧ c.toNat ≤ 57 := (plainW_allD h).1 c (by simp)
/-- many digits make a great number -/
theorem num_big {c : UInt8} {r : List UInt8} (h : c ≠ 48) (hd : allD (c :: r)) : 10 ^ r.length ≤ num 0 (c :: r) := by
  have hc := hd c (by simp)
  have hn : c.toNat ≠ 48 := fun e => h (UInt8.toNat_inj.1 e)
  have h1 := num_ge_pow r (0 * 10 + (c.toNat - 48))
  refine Nat.le_trans ?_ h1
  exact Nat.le_trans (by rw [Nat.one_mul]; exact Nat.le_refl _) (Nat.mul_le_mul_right (10 ^ r.length) (show 1 ≤ 0 * 10 + (c.toNat - 48) by omega))
theorem plainW_big {l : List UInt8} (h : plainW l = true) (n : Nat) (hn : n < l.length) (h1 : 1 ≤ n) : 10 ^ n ≤ num 0 l := by
  rcases plainW_cases h with rfl | ⟨c, r, rfl, h2, h3⟩
  · simp at hn
    omega
  · refine Nat.le_trans ?_ (num_big h2 h3)
    exact Nat.pow_le_pow_right (by decide) (by simp at hn; omega)

/-! what the library's two readers tell of such a word -/
theorem parseM {M : Nat} (hM : M ≤ 18446744073709551615) : ∀ (l : List UInt8) (acc : Nat), allD l → acc ≤ M →
    Lib.parseUintM M acc l = if num acc l ≤ M then .ok (num acc l) else .range
  | [], acc, _, h => by
    show Lib.NumEnd.ok acc = if acc ≤ M then .ok acc else .range
    rw [if_pos h]
  | c :: r, acc, hd, h => by
    have hc : 48 ≤ c.toNat ∧ c.toNat ≤ 57 := hd c (by simp)
    have hr : allD r := fun x hx => hd x (by simp [hx])
    have hg := num_ge r (acc * 10 + (c.toNat - 48))
    have e : num acc (c :: r) = num (acc * 10 + (c.toNat - 48)) r := rfl
    rw [e]
    unfold Lib.parseUintM
    rw [if_pos hc]
    by_cases h1 : 1844674407370955162 ≤ acc
    · rw [if_pos h1, if_neg (by omega)]
    · rw [if_neg h1]
      by_cases h2 : M < acc * 10 + (c.toNat - 48)
      · rw [if_pos h2, if_neg (by omega)]
      · rw [if_neg h2]
        exact parseM hM r _ hr (by omega)

theorem parseU {l : List UInt8} (h : plainW l = true) : Lib.parseUintB 64 l = if num 0 l ≤ 18446744073709551615 then .ok (num 0 l) else .range := by
  obtain ⟨h1, h2⟩ := plainW_allD h
  have e : (2 : Nat) ^ 64 - 1 = 18446744073709551615 := by decide
  unfold Lib.parseUintB
  rw [if_neg h2, e]
  exact parseM (Nat.le_refl _) l 0 h1 (Nat.zero_le _)
theorem parseI {l : List UInt8} (h : plainW l = true) : Lib.parseIntB 64 l = if num 0 l ≤ 9223372036854775807 then .ok (num 0 l : Int) else .range := by
  have e : (2 : Nat) ^ (64 - 1) = 9223372036854775808 := by decide
  have hu := parseU h
  cases l with
  | nil => simp [plainW] at h
  | cons c r =>
    have hc := plainW_head h
    rw [Lib.parseIntB_plain 64 c r (by omega) (by omega), hu, e]
    by_cases h1 : num 0 (c :: r) ≤ 18446744073709551615
    · rw [if_pos h1]
      simp only [Lib.signlessC]
      by_cases h2 : 9223372036854775808 ≤ num 0 (c :: r)
      · rw [if_pos h2, if_neg (by omega)]
      · rw [if_neg h2, if_pos (by omega)]
    · rw [if_neg h1, if_neg (by omega)]
      rfl
theorem parseN {r : List UInt8} (h : plainW r = true) : Lib.parseIntB 64 (45 :: r) = if num 0 r ≤ 9223372036854775808 then .ok (-(num 0 r : Int)) else .range := by
  have e : (2 : Nat) ^ (64 - 1) = 9223372036854775808 := by decide
  rw [Lib.parseIntB_minus, parseU h, e]
  by_cases h1 : num 0 r ≤ 18446744073709551615
  · rw [if_pos h1]
    simp only [Lib.signedC]
    by_cases h2 : 9223372036854775808 < num 0 r
    · rw [if_pos h2, if_neg (by omega)]
    · rw [if_neg h2, if_pos (by omega)]
  · rw [if_neg h1, if_neg (by omega)]
    rfl

/-! the two readers of the layer -/
/-- what Uint reads -/
def rU (l : List UInt8) : Option Nat := if plainW l = true ∧ num 0 l ≤ 18446744073709551615 then some (num 0 l) else none
/-- what Int reads -/
def rI (l : List UInt8) : Option Int :=
  if l.head? = some 45 then if plainW l.tail = true ∧ l.tail ≠ [48] ∧ num 0 l.tail ≤ 9223372036854775808 then some (-(num 0 l.tail : Int)) else none
  else if plainW l = true ∧ num 0 l ≤ 9223372036854775807 then some (num 0 l : Int) else none
/-- the word behind the sign, as Int takes it -/
def iW (l : List UInt8) : List UInt8 := if 1 < l.length ∧ l.head? = some 45 ∧ l ≠ [45, 48] then l.tail else l
def cU (l : List UInt8) : Option Nat := match Lib.parseUintB 64 l with
  | .ok v => if plainW l = true then some v else none
  | _ => none
def cI (l : List UInt8) : Option Int := match Lib.parseIntB 64 l with
  | .ok v => if plainW (iW l) = true then some v else none
  | _ => none

theorem cU_eq (l : List UInt8) : cU l = rU l := by
  unfold cU rU
  by_cases h : plainW l = true
  · rw [parseU h]
    by_cases h1 : num 0 l ≤ 18446744073709551615
    · simp [h, h1]
    · simp [h, h1]
  · cases Lib.parseUintB 64 l <;> simp [h]
theorem plain_minus (r : List UInt8) : plainW (45 :: r) = false := by
  cases h : plainW (45 :: r)
  · rfl
  · have := plainW_head h
    exact absurd this.1 (by decide)
theorem cI_eq (l : List UInt8) : cI l = rI l := by
  unfold cI rI
  cases l with
  | nil => rfl
  | cons c r =>
    by_cases hc : c = 45
    · subst hc
      rw [if_pos (by rfl)]
      show _ = if plainW r = true ∧ r ≠ [48] ∧ num 0 r ≤ 9223372036854775808 then some (-(num 0 r : Int)) else none
      by_cases hw : r = [] ∨ r = [48]
      · have e : iW (45 :: r) = 45 :: r := by
          unfold iW
          rw [if_neg]
          rintro ⟨h1, _, h3⟩
          rcases hw with rfl | rfl
          · simp at h1
          · exact h3 rfl
        have hn : ¬ (plainW r = true ∧ r ≠ [48] ∧ num 0 r ≤ 9223372036854775808) := by
          rintro ⟨h1, h2, _⟩
          rcases hw with rfl | rfl
          · exact absurd h1 (by decide)
          · exact h2 rfl
        rw [e, plain_minus, if_neg hn]
        cases Lib.parseIntB 64 (45 :: r) <;> simp
      · have hr : r ≠ [] := fun e => hw (Or.inl e)
        have hr' : r ≠ [48] := fun e => hw (Or.inr e)
        have e : iW (45 :: r) = r := by
          unfold iW
          rw [if_pos]
          · rfl
          · refine ⟨?_, rfl, fun e => hr' (by injection e)⟩
            have := List.length_pos_iff.2 hr
            simp only [List.length_cons]
            omega
        rw [e]
        by_cases h : plainW r = true
        · rw [parseN h]
          by_cases h1 : num 0 r ≤ 9223372036854775808
          · simp [h, h1, hr']
          · simp [h, h1]
        · cases Lib.parseIntB 64 (45 :: r) <;> simp [h]
    · have e : iW (c :: r) = c :: r := by
        unfold iW
        rw [if_neg]
        rintro ⟨_, h2, _⟩
        exact hc (by simpa using h2)
      rw [if_neg (by simpa using hc), e]
      by_cases h : plainW (c :: r) = true
      · rw [parseI h]
        by_cases h1 : num 0 (c :: r) ≤ 9223372036854775807
        · simp [h, h1]
        · simp [h, h1]
      · cases Lib.parseIntB 64 (c :: r) <;> simp [h]

theorem rI_bounds {l : List UInt8} {v : Int} (h : rI l = some v) : In64 v := by
  unfold rI at h
  unfold In64
  split at h
  · split at h
    · rename_i h1
      injection h with h
      omega
    · cases h
  · split at h
    · rename_i h1
      injection h with h
      omega
    · cases h

/-! how a number is written -/
theorem num_dec (u : Nat) : num 0 (Lib.decDigits u) = u ∧ allD (Lib.decDigits u) ∧ (u ≠ 0 → ∃ c r, Lib.decDigits u = c :: r ∧ c ≠ 48) := by
  induction u using Nat.strongRecOn with
  | _ u ih =>
    have hd : ∀ k, k < 10 → (UInt8.ofNat (48 + k)).toNat = 48 + k := by
      intro k hk
      rw [UInt8.toNat_ofNat']
      omega
    by_cases h : u < 10
    · rw [Lib.decDigits, dif_pos h]
      refine ⟨?_, ?_, ?_⟩
      · show 0 * 10 + ((UInt8.ofNat (48 + u)).toNat - 48) = u
        rw [hd u h]
        omega
      · intro c hc
        have : c = UInt8.ofNat (48 + u) := by simpa using hc
        subst this
        rw [hd u h]
        omega
      · intro hu
        refine ⟨_, _, rfl, ?_⟩
        intro e
        have := congrArg UInt8.toNat e
        rw [hd u h] at this
        exact hu (by have h48 : (48 : UInt8).toNat = 48 := rfl
                     omega)
    · obtain ⟨h1, h2, h3⟩ := ih (u / 10) (by omega)
      rw [Lib.decDigits, dif_neg h]
      have hk : u % 10 < 10 := Nat.mod_lt _ (by decide)
      refine ⟨?_, ?_, ?_⟩
      · rw [num_snoc, h1, hd _ hk]
        omega
      · intro c hc
        rcases List.mem_append.1 hc with hc | hc
        · exact h2 c hc
        · have : c = UInt8.ofNat (48 + u % 10) := by simpa using hc
          subst this
          rw [hd _ hk]
          omega
      · intro _
        obtain ⟨c, r, e, hc⟩ := h3 (by omega)
        exact ⟨c, r ++ [UInt8.ofNat (48 + u % 10)], by rw [e]; rfl, hc⟩
theorem dec_zero : Lib.decDigits 0 = [48] := by
  rw [Lib.decDigits, dif_pos (by decide)]
  rfl
theorem dec_plain (u : Nat) : plainW (Lib.decDigits u) = true := by
  by_cases h : u = 0
  · subst h
    rw [dec_zero]
    rfl
  · obtain ⟨_, h2, h3⟩ := num_dec u
    obtain ⟨c, r, e, hc⟩ := h3 h
    rw [e] at h2 ⊢
    exact plainW_of hc h2
/-- a word of digits in their one form is that of its number -/
theorem dec_num_aux : ∀ (k : Nat) (l : List UInt8), l.length ≤ k → ∀ c r, l = c :: r → c ≠ 48 → allD l → Lib.decDigits (num 0 l) = l
  | 0, l, hk, c, r, e, _, _ => by
    subst e
    simp at hk
  | k + 1, l, hk, c, r, e, hc, hd => by
    rcases List.eq_nil_or_concat l with h0 | ⟨m, x, hx⟩
    · rw [h0] at e
      cases e
    · have hx' : l = m ++ [x] := by simpa using hx
      have hxd : 48 ≤ x.toNat ∧ x.toNat ≤ 57 := hd x (by rw [hx']; simp)
      have hdx : UInt8.ofNat (48 + (x.toNat - 48)) = x := by
        rw [show 48 + (x.toNat - 48) = x.toNat by omega]
        exact UInt8.ofNat_toNat
      rw [hx', num_snoc]
      cases m with
      | nil =>
        show Lib.decDigits (0 * 10 + (x.toNat - 48)) = [x]
        rw [Lib.decDigits, dif_pos (by omega), show 0 * 10 + (x.toNat - 48) = x.toNat - 48 by omega, hdx]
      | cons y m =>
        have ey : y = c := by
          rw [hx'] at e
          injection e
        subst ey
        have hm : allD (y :: m) := fun z hz => hd z (by rw [hx']; exact List.mem_append_left _ hz)
        have h1 := num_big hc hm
        have h2 : 1 ≤ 10 ^ m.length := Nat.one_le_pow _ _ (by decide)
        have ih := dec_num_aux k (y :: m) (by rw [hx'] at hk; simp at hk; simp; omega) y m rfl hc hm
        rw [Lib.decDigits, dif_neg (by omega), show (num 0 (y :: m) * 10 + (x.toNat - 48)) / 10 = num 0 (y :: m) by omega, ih,
          show (num 0 (y :: m) * 10 + (x.toNat - 48)) % 10 = x.toNat - 48 by omega, hdx]
theorem dec_num {l : List UInt8} (h : plainW l = true) : Lib.decDigits (num 0 l) = l := by
  rcases plainW_cases h with rfl | ⟨c, r, rfl, h2, h3⟩
  · exact dec_zero
  · exact dec_num_aux _ _ (Nat.le_refl _) c r rfl h2 h3

theorem itoa_pos {n : Int} (h : 0 ≤ n) : Lib.itoa n = Lib.decDigits n.toNat := if_neg (by omega)
theorem itoa_neg {n : Int} (h : n < 0) : Lib.itoa n = 45 :: Lib.decDigits n.natAbs := if_pos h
theorem itoa_le (n : Int) (h : In64 n) : (Lib.itoa n).length ≤ 21 := by
  obtain ⟨h1, h2⟩ := h
  have key : ∀ u : Nat, u ≤ 9223372036854775808 → (Lib.decDigits u).length ≤ 20 := by
    intro u hu
    by_cases hl : (Lib.decDigits u).length ≤ 20
    · exact hl
    · have hb := plainW_big (dec_plain u) 20 (by omega) (by decide)
      rw [(num_dec u).1] at hb
      have : (10 : Nat) ^ 20 = 100000000000000000000 := by decide
      omega
  by_cases hn : n < 0
  · rw [itoa_neg hn, List.length_cons]
    have := key n.natAbs (by omega)
    omega
  · rw [itoa_pos (by omega)]
    have := key n.toNat (by omega)
    omega
/-- what was written is read -/
theorem rI_itoa {n : Int} (h : In64 n) : rI (Lib.itoa n) = some n := by
  obtain ⟨h1, h2⟩ := h
  unfold rI
  by_cases hn : n < 0
  · rw [itoa_neg hn, if_pos (by rfl)]
    show (if plainW (Lib.decDigits n.natAbs) = true ∧ Lib.decDigits n.natAbs ≠ [48] ∧ num 0 (Lib.decDigits n.natAbs) ≤ 9223372036854775808 then some (-(num 0 (Lib.decDigits n.natAbs) : Int)) else none) = some n
    rw [(num_dec n.natAbs).1, if_pos]
    · congr 1
      omega
    · refine ⟨dec_plain _, ?_, by omega⟩
      intro e
      have := (num_dec n.natAbs).1
      rw [e] at this
      have e0 : num 0 [48] = 0 := rfl
      omega
  · rw [itoa_pos (by omega)]
    have hp := dec_plain n.toNat
    have hh : (Lib.decDigits n.toNat).head? ≠ some 45 := by
      cases hl : Lib.decDigits n.toNat with
      | nil => simp
      | cons c r =>
        rw [hl] at hp
        have := plainW_head hp
        intro e
        have e' : c = 45 := by simpa using e
        subst e'
        exact absurd this.1 (by decide)
    rw [if_neg hh, (num_dec n.toNat).1, if_pos ⟨hp, by omega⟩]
    congr 1
    omega
/-- what was read was written so -/
theorem itoa_rI {l : List UInt8} {m : Int} (h : rI l = some m) : Lib.itoa m = l := by
  unfold rI at h
  split at h
  · rename_i hh
    cases l with
    | nil => simp at hh
    | cons c r =>
      have hc : c = 45 := by simpa using hh
      subst hc
      split at h
      · rename_i h1
        obtain ⟨h1, h2, h3⟩ := h1
        have e : m = -(num 0 r : Int) := by
          injection h with h
          exact h.symm
        have hr : (45 :: r).tail = r := rfl
        rw [hr] at h1 h2
        have hz : num 0 r ≠ 0 := by
          intro e0
          have := dec_num h1
          rw [e0, dec_zero] at this
          exact h2 this.symm
        rw [e, itoa_neg (by omega), show (-(num 0 r : Int)).natAbs = num 0 r by omega, dec_num h1]
      · cases h
  · split at h
    · rename_i h1
      have e : m = (num 0 l : Int) := by
        injection h with h
        exact h.symm
      rw [e, itoa_pos (by omega), show ((num 0 l : Int)).toNat = num 0 l by omega, dec_num h1.1]
    · cases h
/-- the two readers of one word -/
theorem rU_of_rI {l : List UInt8} {m : Int} (h : rI l = some m) : rU l = if m < 0 then none else some m.toNat := by
  unfold rI at h
  unfold rU
  split at h
  · rename_i hh
    cases l with
    | nil => simp at hh
    | cons c r =>
      have hc : c = 45 := by simpa using hh
      subst hc
      rw [plain_minus, if_neg (by simp)]
      split at h
      · rename_i h1
        obtain ⟨h1, h2, h3⟩ := h1
        have hr : (45 :: r).tail = r := rfl
        rw [hr] at h h1 h2
        have hz : num 0 r ≠ 0 := by
          intro e0
          have := dec_num h1
          rw [e0, dec_zero] at this
          exact h2 this.symm
        have e : m = -(num 0 r : Int) := by
          injection h with h
          exact h.symm
        rw [if_pos (by omega)]
      · cases h
  · split at h
    · rename_i h1
      have e : m = (num 0 l : Int) := by
        injection h with h
        exact h.symm
      rw [if_pos ⟨h1.1, by omega⟩, if_neg (by omega)]
      congr 1
      omega
    · cases h

/-! as the code hands them back -/
def rIv (l : List UInt8) : Int := (rI l).getD 0
def rIc (l : List UInt8) : Int := if (rI l).isSome then 0 else 10
def rUv (l : List UInt8) : Int := ((rU l).getD 0 : Nat)
def rUc (l : List UInt8) : Int := if (rU l).isSome then 0 else 10
theorem rIv_in (l : List UInt8) : In64 (rIv l) := by
  unfold rIv
  cases h : rI l with
  | none => unfold In64; simp
  | some v => exact rI_bounds h
theorem rUv_in (l : List UInt8) : 0 ≤ rUv l ∧ rUv l ≤ 18446744073709551615 := by
  unfold rUv
  cases h : rU l with
  | none => simp
  | some v =>
    unfold rU at h
    split at h
    · rename_i h1
      injection h with h
      simp only [Option.getD_some]
      omega
    · cases h
end Go.Proofs.YtakldjdohgmeiaaDoor.Pl
