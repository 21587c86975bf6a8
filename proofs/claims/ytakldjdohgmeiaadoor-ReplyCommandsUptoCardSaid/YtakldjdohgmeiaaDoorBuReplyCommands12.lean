/- What is read from the left of bytes: a line, a reply; there and back; plain Lean. Conditions stand in each law. reply's reader: a line, so many bytes. Conditions stand in each law. reply's reader: so many bytes, and the end behind them. Conditions stand in each law. The makers of replies without a list. Conditions stand in each law. reply's reader: laws for the walk of reply. Conditions stand in each law. pantrylaw16.tree: some tree of bounded weight, in blocks of its own. Conditions: the list of nodes reads as it must, its weight is small. Conditions stand in each law. -/
import Derived.Test.YtakldjdohgmeiaaDoorBuReplyCommands11
import Derived.Test.YtakldjdohgmeiaaDoorBuReplyCommands9
import Derived.Test.YtakldjdohgmeiaaDoorBuReplyCommands4
import Derived.Test.YtakldjdohgmeiaaDoorBuReplyCommands10
import Derived.BigRegion
import Derived.BigQuiet
import Derived.StillTailTactics
namespace Go.Proofs.YtakldjdohgmeiaaDoor
open Go.RowKit
set_option maxRecDepth 20000

namespace Pl
/-- a line: how it goes, its text, what stands behind it -/
def lineR (l : List UInt8) : Int × List UInt8 × List UInt8 :=
  match l.dropWhile (fun c => !isEnd c) with
  | [] => (5, [], [])
  | c :: r => if c = 10 then (160, [], []) else match r with
    | [] => (5, [], [])
    | d :: r' => if d = 10 then (0, l.takeWhile (fun c => !isEnd c), r') else (160, [], [])
theorem noEnd_cons (c : UInt8) (l : List UInt8) : noEnd (c :: l) = (!isEnd c && noEnd l) := by simp [noEnd]
theorem noEnd_drop : ∀ (s r : List UInt8), noEnd s = true → (s ++ r).dropWhile (fun c => !isEnd c) = r.dropWhile (fun c => !isEnd c) ∧ (s ++ r).takeWhile (fun c => !isEnd c) = s ++ r.takeWhile (fun c => !isEnd c)
  | [], r, _ => ⟨rfl, rfl⟩
  | c :: s, r, h => by
    rw [noEnd_cons, Bool.and_eq_true] at h
    obtain ⟨h1, h2⟩ := noEnd_drop s r h.2
    simp only [List.cons_append, List.dropWhile_cons, List.takeWhile_cons, h.1, if_true, h1, h2]
    exact ⟨trivial, trivial⟩
theorem line_ok (s r : List UInt8) (h : noEnd s = true) : lineR (s ++ 13 :: 10 :: r) = (0, s, r) := by
  obtain ⟨h1, h2⟩ := noEnd_drop s (13 :: 10 :: r) h
  unfold lineR
  rw [h1, h2]
  simp [isEnd]
theorem line_none (s : List UInt8) (h : noEnd s = true) : lineR s = (5, [], []) := by
  obtain ⟨h1, _⟩ := noEnd_drop s [] h
  rw [List.append_nil] at h1
  unfold lineR
  rw [h1]
  rfl
theorem line_lf (s r : List UInt8) (h : noEnd s = true) : lineR (s ++ 10 :: r) = (160, [], []) := by
  obtain ⟨h1, _⟩ := noEnd_drop s (10 :: r) h
  unfold lineR
  rw [h1]
  simp [isEnd]
theorem line_cr (s : List UInt8) (h : noEnd s = true) : lineR (s ++ [13]) = (5, [], []) := by
  obtain ⟨h1, _⟩ := noEnd_drop s [13] h
  unfold lineR
  rw [h1]
  simp [isEnd]
theorem line_crx (s r : List UInt8) (x : UInt8) (hx : x ≠ 10) (h : noEnd s = true) : lineR (s ++ 13 :: x :: r) = (160, [], []) := by
  obtain ⟨h1, _⟩ := noEnd_drop s (13 :: x :: r) h
  unfold lineR
  rw [h1]
  simp [isEnd, hx]
theorem line_cases (l : List UInt8) : ∃ s r, noEnd s = true ∧ l = s ++ r ∧ (r = [] ∨ (∃ r', r = 10 :: r') ∨ r = [13] ∨ (∃ x r', x ≠ 10 ∧ r = 13 :: x :: r') ∨ ∃ r', r = 13 :: 10 :: r') := by
  induction l with
  | nil => exact ⟨[], [], rfl, rfl, .inl rfl⟩
  | cons c l ih =>
    by_cases hc : isEnd c = true
    · refine ⟨[], c :: l, rfl, rfl, ?_⟩
      unfold isEnd at hc
      simp only [Bool.or_eq_true, beq_iff_eq] at hc
      rcases hc with rfl | rfl
      · cases l with
        | nil => exact .inr (.inr (.inl rfl))
        | cons d l =>
          by_cases hd : d = 10
          · subst hd; exact .inr (.inr (.inr (.inr ⟨_, rfl⟩)))
          · exact .inr (.inr (.inr (.inl ⟨d, l, hd, rfl⟩)))
      · exact .inr (.inl ⟨_, rfl⟩)
    · obtain ⟨s, r, h1, h2, h3⟩ := ih
      refine ⟨c :: s, r, ?_, by rw [h2]; rfl, h3⟩
      rw [noEnd_cons, h1]
      simp [hc]
/-- what a line's text and rest are -/
theorem line_back {l : List UInt8} (h : (lineR l).1 = 0) : noEnd (lineR l).2.1 = true ∧ l = (lineR l).2.1 ++ 13 :: 10 :: (lineR l).2.2 := by
  obtain ⟨s, r, h1, rfl, h3 | ⟨r', rfl⟩ | rfl | ⟨x, r', hx, rfl⟩ | ⟨r', rfl⟩⟩ := line_cases l
  · subst h3
    rw [List.append_nil, line_none s h1] at h
    exact absurd h (by decide)
  · rw [line_lf s r' h1] at h
    exact absurd h (by decide)
  · rw [line_cr s h1] at h
    exact absurd h (by decide)
  · rw [line_crx s r' x hx h1] at h
    exact absurd h (by decide)
  · rw [line_ok s r' h1]
    exact ⟨h1, rfl⟩
theorem line_code (l : List UInt8) : (lineR l).1 = 0 ∨ (lineR l).1 = 5 ∨ (lineR l).1 = 160 := by
  obtain ⟨s, r, h1, rfl, h3 | ⟨r', rfl⟩ | rfl | ⟨x, r', hx, rfl⟩ | ⟨r', rfl⟩⟩ := line_cases l
  · subst h3
    rw [List.append_nil, line_none s h1]
    exact .inr (.inl rfl)
  · rw [line_lf s r' h1]
    exact .inr (.inr rfl)
  · rw [line_cr s h1]
    exact .inr (.inl rfl)
  · rw [line_crx s r' x hx h1]
    exact .inr (.inr rfl)
  · rw [line_ok s r' h1]
    exact .inl rfl
theorem noEnd_append (a b : List UInt8) : noEnd (a ++ b) = (noEnd a && noEnd b) := by simp [noEnd]
/-- a line that is broken off -/
theorem line_short {s p q : List UInt8} (hs : noEnd s = true) (h : s ++ [13, 10] = p ++ q) (hq : q ≠ []) : (lineR p).1 = 5 := by
  rcases List.append_eq_append_iff.1 h with ⟨a, h1, h2⟩ | ⟨a, h1, h2⟩
  · subst h1
    cases a with
    | nil => rw [List.append_nil, line_none s hs]
    | cons c a =>
      cases a with
      | nil =>
        simp only [List.cons_append, List.nil_append, List.cons.injEq] at h2
        obtain ⟨rfl, _⟩ := h2
        rw [line_cr s hs]
      | cons d a =>
        simp only [List.cons_append, List.cons.injEq] at h2
        obtain ⟨_, _, h2⟩ := h2
        have := List.append_eq_nil_iff.1 h2.symm
        exact absurd this.2 hq
  · rw [h1, noEnd_append, Bool.and_eq_true] at hs
    rw [line_none p hs.1]
end Pl

/-- the first line of a reply -/
inductive Hd where
  | bad (c : Int)
  | one (t : RT) (rest : List UInt8)
  | arr (n : Nat) (rest : List UInt8)
namespace RT
open Pl
def nul : RT := .mk 0 ⟨#[]⟩ 0 []
/-- the kind that a first byte tells; 0: none -/
def kd (f : UInt8) : Int := if f = 43 then 1 else if f = 45 then 2 else if f = 58 then 3 else if f = 36 then 4 else if f = 42 then 5 else 0
/-- so many bytes, and the end behind them -/
def bulkR (n : Nat) (l : List UInt8) : Int × List UInt8 × List UInt8 :=
  if l.length < n + 2 then (5, [], []) else if slc l n (n + 2) = [13, 10] then (0, l.take n, l.drop (n + 2)) else (160, [], [])
/-- behind a first line: the number -/
def numR (k : Int) (v : Int) (rest : List UInt8) : Hd :=
  if k = 3 then .one (.mk 3 ⟨#[]⟩ v []) rest else if v = -1 then .one (.mk (if k = 4 then 5 else 7) ⟨#[]⟩ 0 []) rest else if 16777216 < v then .bad 2
  else if k = 4 then (if (bulkR v.toNat rest).1 = 0 then .one (.mk 4 (B (bulkR v.toNat rest).2.1) 0 []) (bulkR v.toNat rest).2.2 else .bad (bulkR v.toNat rest).1) else .arr v.toNat rest
def hdR : List UInt8 → Hd
  | [] => .bad 5
  | f :: r => if kd f = 0 then .bad 160 else if (lineR r).1 ≠ 0 then .bad (lineR r).1 else if kd f ≤ 2 then .one (.mk (kd f) (B (lineR r).2.1) 0 []) (lineR r).2.2
    else if rIc (lineR r).2.1 ≠ 0 ∨ (3 < kd f ∧ rIv (lineR r).2.1 < -1) then .bad 160 else numR (kd f) (rIv (lineR r).2.1) (lineR r).2.2
/-- so many, one behind the other -/
def decN (f : List UInt8 → Int × RT × List UInt8) : Nat → List RT → List UInt8 → Int × List RT × List UInt8
  | 0, ts, l => (0, ts, l)
  | n + 1, ts, l => if (f l).1 = 0 then decN f n (ts ++ [(f l).2.1]) (f l).2.2 else ((f l).1, [], [])
def arrR (q : Int × List RT × List UInt8) : Int × RT × List UInt8 := if q.1 = 0 then (0, .mk 6 ⟨#[]⟩ 0 q.2.1, q.2.2) else (q.1, nul, [])
/-- a reply, within at most so many arrays -/
def decR : Nat → List UInt8 → Int × RT × List UInt8
  | 0, l => match hdR l with
    | .bad c => (c, nul, [])
    | .one t r => (0, t, r)
    | .arr _ _ => (161, nul, [])
  | d + 1, l => match hdR l with
    | .bad c => (c, nul, [])
    | .one t r => (0, t, r)
    | .arr n r => arrR (decN (decR d) n [] r)
theorem decR_bad {l : List UInt8} {c : Int} (h : hdR l = .bad c) (d : Nat) : decR d l = (c, nul, []) := by cases d <;> simp only [decR, h]
theorem decR_one {l r : List UInt8} {t : RT} (h : hdR l = .one t r) (d : Nat) : decR d l = (0, t, r) := by cases d <;> simp only [decR, h]
theorem decR_deep {l r : List UInt8} {n : Nat} (h : hdR l = .arr n r) : decR 0 l = (161, nul, []) := by simp only [decR, h]
theorem decR_arr {l r : List UInt8} {n : Nat} (h : hdR l = .arr n r) (d : Nat) : decR (d + 1) l = arrR (decN (decR d) n [] r) := by simp only [decR, h]

/-! there -/
theorem noEnd_digits {l : List UInt8} (h : ∀ c ∈ l, 45 ≤ c.toNat) : noEnd l = true := by
  unfold noEnd
  rw [List.all_eq_true]
  intro c hc
  have := h c hc
  have h1 : c ≠ 13 := fun e => by rw [e] at this; exact absurd this (by decide)
  have h2 : c ≠ 10 := fun e => by rw [e] at this; exact absurd this (by decide)
  simp [isEnd, h1, h2]
theorem dec_ge {k : Nat} {c : UInt8} (h : c ∈ Lib.decDigits k) : 45 ≤ c.toNat := by
  have := (num_dec k).2.1 c h
  omega
theorem itoa_ge {n : Int} {c : UInt8} (h : c ∈ Lib.itoa n) : 45 ≤ c.toNat := by
  by_cases h0 : n < 0
  · rw [itoa_neg h0] at h
    rcases List.mem_cons.1 h with rfl | h
    · decide
    · exact dec_ge h
  · rw [itoa_pos (by omega)] at h
    exact dec_ge h
theorem rI_dec' (k : Nat) (h : k ≤ 9223372036854775807) : rIv (Lib.decDigits k) = (k : Int) ∧ rIc (Lib.decDigits k) = 0 := by
  have := rI_itoa (n := (k : Int)) (by unfold In64; omega)
  rw [itoa_pos (by omega)] at this
  have e : Lib.decDigits ((k : Int)).toNat = Lib.decDigits k := rfl
  rw [e] at this
  unfold rIv rIc
  rw [this]
  exact ⟨rfl, rfl⟩
theorem rI_itoa' (n : Int) (h : In64 n) : rIv (Lib.itoa n) = n ∧ rIc (Lib.itoa n) = 0 := by
  have := rI_itoa h
  unfold rIv rIc
  rw [this]
  exact ⟨rfl, rfl⟩
theorem bulkR_ok (s r : List UInt8) : bulkR s.length (s ++ 13 :: 10 :: r) = (0, s, r) := by
  unfold bulkR slc
  rw [if_neg (by simp)]
  have e1 : (s ++ 13 :: 10 :: r).drop s.length = 13 :: 10 :: r := by simp
  have e2 : (s ++ 13 :: 10 :: r).drop (s.length + 2) = r := by rw [← List.drop_drop, e1]; rfl
  have e3 : (s ++ 13 :: 10 :: r).take s.length = s := by simp
  rw [e1, e2, e3, show s.length + 2 - s.length = 2 by omega]
  simp
/-- what the head of a right reply reads as -/
theorem hd_enc {k : Int} {s : ByteArray} {n : Int} {l : List RT} (h : okHead k s n l.length = true) (hn : In64 n) (hs : s.size ≤ 16777216) (hl : l.length ≤ 16777216) (r : List UInt8) :
    hdR (encH k s n l.length ++ r) = if k = 6 then .arr l.length r else .one (.mk k s n []) r := by
  have h5 : hdR ([36, 45, 49, 13, 10] ++ r) = .one (.mk 5 ⟨#[]⟩ 0 []) r := by
    have e := line_ok [45, 49] r (by decide)
    have e' : lineR ([45, 49, 13, 10] ++ r) = (0, [45, 49], r) := e
    obtain ⟨v, c⟩ := rI_itoa' (-1) (by unfold In64; omega)
    have ei : Lib.itoa (-1) = [45, 49] := by decide +kernel
    rw [ei] at v c
    show hdR (36 :: ([45, 49, 13, 10] ++ r)) = _
    have ek : kd 36 = 4 := by decide
    simp only [hdR, ek, e', v, c, numR]
    simp
  have h7 : hdR ([42, 45, 49, 13, 10] ++ r) = .one (.mk 7 ⟨#[]⟩ 0 []) r := by
    have e := line_ok [45, 49] r (by decide)
    have e' : lineR ([45, 49, 13, 10] ++ r) = (0, [45, 49], r) := e
    obtain ⟨v, c⟩ := rI_itoa' (-1) (by unfold In64; omega)
    have ei : Lib.itoa (-1) = [45, 49] := by decide +kernel
    rw [ei] at v c
    show hdR (42 :: ([45, 49, 13, 10] ++ r)) = _
    have ek : kd 42 = 5 := by decide
    simp only [hdR, ek, e', v, c, numR]
    simp
  rcases okHead_cases h with ⟨rfl, h1, rfl, h2⟩ | ⟨rfl, h1, rfl, h2⟩ | ⟨rfl, rfl, h2⟩ | ⟨rfl, rfl, h2⟩ | ⟨rfl, rfl, rfl, h2⟩ | ⟨rfl, rfl, rfl, h2⟩ | ⟨rfl, rfl, rfl⟩
  · rw [if_neg (by decide)]
    have e := line_ok (L s) r h1
    unfold encH crlf
    simp only [if_true, List.append_assoc, List.cons_append, List.nil_append]
    have ek : kd 43 = 1 := by decide
    simp only [hdR, ek, e, B_L]
    simp
  · rw [if_neg (by decide)]
    have e := line_ok (L s) r h1
    unfold encH crlf
    rw [if_neg (by decide)]
    simp only [if_true, List.append_assoc, List.cons_append, List.nil_append]
    have ek : kd 45 = 2 := by decide
    simp only [hdR, ek, e, B_L]
    simp
  · rw [if_neg (by decide)]
    have e := line_ok (Lib.itoa n) r (noEnd_digits fun c hc => itoa_ge hc)
    obtain ⟨v, c⟩ := rI_itoa' n hn
    unfold encH crlf
    rw [if_neg (by decide), if_neg (by decide)]
    simp only [if_true, List.append_assoc, List.cons_append, List.nil_append]
    have ek : kd 58 = 3 := by decide
    simp only [hdR, ek, e, v, c, numR]
    simp
  · rw [if_neg (by decide)]
    have hsz : (L s).length ≤ 16777216 := by rw [L_length]; exact hs
    have e := line_ok (Lib.decDigits (L s).length) (L s ++ 13 :: 10 :: r) (noEnd_digits fun c hc => dec_ge hc)
    obtain ⟨v, c⟩ := rI_dec' (L s).length (by omega)
    have eb := bulkR_ok (L s) r
    unfold encH bulkE crlf
    rw [if_neg (by decide), if_neg (by decide), if_neg (by decide)]
    simp only [if_true, List.append_assoc, List.cons_append, List.nil_append]
    have ek : kd 36 = 4 := by decide
    have n1 : ¬ (((L s).length : Nat) : Int) = -1 := by omega
    have n2 : ¬ (16777216 : Int) < (((L s).length : Nat) : Int) := by omega
    have n3 : ¬ (((L s).length : Nat) : Int) < -1 := by omega
    simp only [hdR, ek, e, v, c, numR, n1, n2, n3, Int.toNat_natCast, eb, B_L]
    simp
  · rw [if_neg (by decide)]
    exact h5
  · rw [if_neg (by decide)]
    exact h7
  · rw [if_pos rfl]
    have e := line_ok (Lib.decDigits l.length) r (noEnd_digits fun c hc => dec_ge hc)
    obtain ⟨v, c⟩ := rI_dec' l.length (by omega)
    unfold encH crlf
    rw [if_neg (by decide), if_neg (by decide), if_neg (by decide), if_neg (by decide), if_neg (by decide), if_neg (by decide)]
    simp only [List.append_assoc, List.cons_append, List.nil_append]
    have ek : kd 42 = 5 := by decide
    have n1 : ¬ ((l.length : Nat) : Int) = -1 := by omega
    have n2 : ¬ (16777216 : Int) < ((l.length : Nat) : Int) := by omega
    have n3 : ¬ ((l.length : Nat) : Int) < -1 := by omega
    simp only [hdR, ek, e, v, c, numR, n1, n2, n3, Int.toNat_natCast]
    simp
theorem decN_all (f : List UInt8 → Int × RT × List UInt8) : ∀ (l : List RT) (ts : List RT) (r : List UInt8), (∀ t ∈ l, ∀ r', f (t.enc ++ r') = (0, t, r')) → decN f l.length ts (encL l ++ r) = (0, ts ++ l, r)
  | [], ts, r, _ => by simp [decN, encL]
  | t :: l, ts, r, h => by
    have h1 := h t (by simp) (encL l ++ r)
    have h2 := decN_all f l (ts ++ [t]) r fun t' ht' => h t' (by simp [ht'])
    simp only [List.length_cons, decN, encL, List.append_assoc, h1, if_true, h2]
    simp
theorem depthL_mem : ∀ {l : List RT} {t : RT}, t ∈ l → t.depth ≤ depthL l
  | x :: l, t, h => by
    simp only [depthL]
    rcases List.mem_cons.1 h with rfl | h
    · exact Nat.le_max_left _ _
    · exact Nat.le_trans (depthL_mem h) (Nat.le_max_right _ _)
theorem encL_mem : ∀ {l : List RT} {t : RT}, t ∈ l → t.enc.length ≤ (encL l).length
  | x :: l, t, h => by
    simp only [encL, List.length_append]
    rcases List.mem_cons.1 h with rfl | h
    · omega
    · have := encL_mem h
      omega
theorem encH_text {k : Int} {s : ByteArray} {n : Int} {ln : Nat} (h : okHead k s n ln = true) : s.size + 3 ≤ (encH k s n ln).length := by
  have hp := fun m : Nat => show 0 < (Lib.decDigits m).length from by
    have := (plainW_allD (dec_plain m)).2
    cases hh : Lib.decDigits m with
    | nil => exact absurd hh this
    | cons _ _ => simp
  have e0 : (⟨#[]⟩ : ByteArray).size = 0 := rfl
  rcases okHead_cases h with ⟨rfl, h1, rfl, h2⟩ | ⟨rfl, h1, rfl, h2⟩ | ⟨rfl, rfl, h2⟩ | ⟨rfl, rfl, h2⟩ | ⟨rfl, rfl, rfl, h2⟩ | ⟨rfl, rfl, rfl, h2⟩ | ⟨rfl, rfl, rfl⟩
  · simp [encH, crlf, L_length]
  · simp [encH, crlf, L_length]
  · simp [encH, crlf, e0]
  · simp [encH, bulkE, crlf, L_length]; omega
  · simp [encH, e0]
  · simp [encH, e0]
  · simp [encH, crlf, e0]
theorem szL_le9 : ∀ l : List RT, (∀ t ∈ l, t.sz ≤ 9 * t.enc.length) → szL l ≤ 9 * (encL l).length
  | [], _ => by simp [szL, encL]
  | t :: l, h => by
    have h1 := h t (by simp)
    have h2 := szL_le9 l fun t' ht' => h t' (by simp [ht'])
    simp only [szL, encL, List.length_append]
    omega
theorem encL_len : ∀ l : List RT, (∀ t ∈ l, 3 ≤ t.enc.length) → 3 * l.length ≤ (encL l).length
  | [], _ => by simp
  | t :: l, h => by
    have h1 := h t (by simp)
    have h2 := encL_len l fun t' ht' => h t' (by simp [ht'])
    simp only [encL, List.length_append, List.length_cons]
    omega
theorem okL_mem {l : List RT} (h : okL l = true) {t : RT} (ht : t ∈ l) : t.ok = true := (okL_iff l).1 h t ht
/-- a right reply's weight is bounded by its bytes -/
theorem sz_enc (t : RT) : t.ok = true → t.sz ≤ 9 * t.enc.length ∧ 3 ≤ t.enc.length := by
  induction t using RT.ind with
  | h k s n l ih =>
    intro h
    rw [ok_mk, Bool.and_eq_true] at h
    have h1 := encH_text h.1
    have h2 := szL_le9 l fun t ht => (ih t ht (okL_mem h.2 ht)).1
    rw [sz_mk, enc_mk, List.length_append]
    omega
/-- there: a right reply is read as it was, whatever stands behind it -/
theorem dec_enc : ∀ (d : Nat) (t : RT), t.ok = true → t.In → t.depth ≤ d → t.enc.length ≤ 16777216 → ∀ r, decR d (t.enc ++ r) = (0, t, r) := by
  intro d
  induction d with
  | zero =>
    intro t hok hin hd hl r
    obtain ⟨k, s, n, l⟩ := t
    rw [ok_mk, Bool.and_eq_true] at hok
    rw [depth_mk] at hd
    have hk : k ≠ 6 := fun e => by rw [if_pos e] at hd; omega
    have ht := encH_text hok.1
    rw [enc_mk, List.length_append] at hl
    have hln : l = [] := by
      rcases okHead_cases hok.1 with ⟨_, _, _, h⟩ | ⟨_, _, _, h⟩ | ⟨_, _, h⟩ | ⟨_, _, h⟩ | ⟨_, _, _, h⟩ | ⟨_, _, _, h⟩ | ⟨h, _⟩
      all_goals first | exact List.eq_nil_of_length_eq_zero h | exact absurd h hk
    subst hln
    have := hd_enc (l := []) hok.1 hin.num (by omega) (by simp) r
    rw [if_neg hk] at this
    rw [enc_mk, show encL [] = [] by simp [encL], List.append_nil]
    exact decR_one this 0
  | succ d ih =>
    intro t hok hin hd hl r
    obtain ⟨k, s, n, l⟩ := t
    rw [ok_mk, Bool.and_eq_true] at hok
    rw [depth_mk] at hd
    have ht := encH_text hok.1
    have hle : 3 * l.length ≤ (encL l).length := encL_len l fun t ht => (sz_enc t (okL_mem hok.2 ht)).2
    rw [enc_mk, List.length_append] at hl
    have hh := hd_enc hok.1 hin.num (by omega) (by omega) (encL l ++ r)
    rw [enc_mk, List.append_assoc]
    by_cases hk : k = 6
    · rw [if_pos hk] at hh hd
      rw [decR_arr hh d, decN_all (decR d) l [] r fun t' ht' r' => ih t' (okL_mem hok.2 ht') (hin.list t' ht') (by have := depthL_mem ht'; omega) (by have := encL_mem ht'; omega) r']
      rcases okHead_cases hok.1 with ⟨h, _⟩ | ⟨h, _⟩ | ⟨h, _⟩ | ⟨h, _⟩ | ⟨h, _⟩ | ⟨h, _⟩ | ⟨_, rfl, rfl⟩
      all_goals first | (rw [hk] at h; exact absurd h (by decide)) | (subst hk; simp [arrR])
    · rw [if_neg hk] at hh
      have hln : l = [] := by
        rcases okHead_cases hok.1 with ⟨_, _, _, h⟩ | ⟨_, _, _, h⟩ | ⟨_, _, h⟩ | ⟨_, _, h⟩ | ⟨_, _, _, h⟩ | ⟨_, _, _, h⟩ | ⟨h, _⟩
        all_goals first | exact List.eq_nil_of_length_eq_zero h | exact absurd h hk
      subst hln
      rw [decR_one hh (d + 1)]
      simp [encL]
end RT
end Go.Proofs.YtakldjdohgmeiaaDoor

namespace Go.Proofs.YtakldjdohgmeiaaDoor
open Go.RowKit
set_option maxRecDepth 20000

namespace Mm
open Pl
/-- the string of bytes that stand somewhere -/
theorem wp_strAt {ops : Array Oper} {rest : List Oper} {o : Oper} {a : Act} {Q : Exit → Act → World → Prop} (w : World) (hgd : o.guard = none) (x : Operand) (ho : o.op = .convert 24 9 x)
    (l : List UInt8) (v : Value) (h : Bs w v l) (hx : a.eval x = v) (hK : wpList Tryd.prog ops Q rest (a.put o.dst (.string (B l))) w) : wpList Tryd.prog ops Q (o :: rest) a w := by
  refine wpList_plain hgd fun K hK' => ?_
  have hrun : (convert 24 9 v).run Tryd.prog w = .ok (.string (B l)) w := by
    obtain ⟨ad, c, rfl, hc, _, hm⟩ := h
    rcases Nat.eq_zero_or_pos l.length with h0 | h0
    · have hl : l = [] := List.eq_nil_of_length_eq_zero h0
      subst hl
      cases ad with
      | none => exact run_convert_bytes_nil w 24 5 Tryd.underlying24 Tryd.underlying5 0 c 9 Tryd.underlying9
      | some ad => exact run_convert_bytes_back w 24 9 5 ad c [] Tryd.underlying24 Tryd.underlying5 Tryd.underlying9 (fun j hj => absurd hj (by simp))
    · obtain ⟨g, off, rfl, hb⟩ := hm h0
      refine run_convert_bytes_back w 24 9 5 ⟨g, off, none⟩ c l Tryd.underlying24 Tryd.underlying5 Tryd.underlying9 (fun j hj => ?_)
      have e : (⟨g, off, none⟩ : Addr).add j = ⟨g, off + j, none⟩ := by unfold Addr.add; split <;> simp_all
      rw [e, hb j hj]
      unfold at_
      rw [List.getD_eq_getElem?_getD, List.getElem?_eq_getElem hj, Option.getD_some]
  unfold Oper.wp
  simp [execOp, ho, hx, hrun, Result.andThen]
  exact hK' _ _ hK
theorem Bs.dn {w w' : World} {v : Value} {l : List UInt8} (h : Bs w v l) (hb : Below w.heap.size w w') : Bs w' v l := h.keep fun _ _ _ g _ _ _ _ hg => hb.block g hg
/-- the front, the rest of bytes -/
theorem Bs.front {w : World} {a : Option Addr} {n c : Nat} {s r : List UInt8} (h : Bs w (.slice a n c) (s ++ r)) : Bs w (.slice a s.length c) s := by
  obtain ⟨a', c', e, hc, hn, hm⟩ := h
  injection e with e1 e2 e3
  subst e1 e3
  rw [List.length_append] at hc hm
  refine ⟨a, c, rfl, by omega, hn, fun h0 => ?_⟩
  obtain ⟨g, o, rfl, hb⟩ := hm (by omega)
  refine ⟨g, o, rfl, fun j hj => ?_⟩
  rw [hb j (by rw [List.length_append]; omega)]
  unfold at_
  rw [List.getD_eq_getElem?_getD, List.getElem?_append_left hj, ← List.getD_eq_getElem?_getD]
theorem Bs.back {w : World} {g o n c : Nat} {s r : List UInt8} (h : Bs w (.slice (some ⟨g, o, none⟩) n c) (s ++ r)) : Bs w (.slice (some ⟨g, o + s.length, none⟩) r.length (c - s.length)) r := by
  obtain ⟨a', c', e, hc, hn, hm⟩ := h
  injection e with e1 e2 e3
  subst e1 e3
  rw [List.length_append] at hc hm
  refine ⟨_, _, rfl, by omega, fun e => by (cases e), fun h0 => ⟨_, _, rfl, fun j hj => ?_⟩⟩
  obtain ⟨g', o', e, hb⟩ := hm (by omega)
  injection e with e
  injection e with e1 e2
  subst e1 e2
  rw [Nat.add_assoc, hb (s.length + j) (by rw [List.length_append]; omega)]
  unfold at_
  rw [List.getD_eq_getElem?_getD, List.getElem?_append_right (by omega), Nat.add_sub_cancel_left, ← List.getD_eq_getElem?_getD]
theorem Bs.some {w : World} {v : Value} {l : List UInt8} (h : Bs w v l) (h0 : 0 < l.length) : ∃ g o c, v = .slice (some ⟨g, o, none⟩) l.length c ∧ l.length ≤ c ∧ BytesAt w g o l := by
  obtain ⟨a, c, rfl, hc, _, hm⟩ := h
  obtain ⟨g, o, rfl, hb⟩ := hm h0
  exact ⟨g, o, c, rfl, hc, hb⟩
end Mm
namespace Pl
theorem at_mid (s r : List UInt8) (x : UInt8) : at_ (s ++ x :: r) s.length = (x.toNat : Int) := by
  unfold at_
  rw [List.getD_eq_getElem?_getD, List.getElem?_append_right (Nat.le_refl _), Nat.sub_self]
  rfl
theorem at_mid2 (s r : List UInt8) (x y : UInt8) : at_ (s ++ x :: y :: r) (s.length + 1) = (y.toNat : Int) := by
  unfold at_
  rw [List.getD_eq_getElem?_getD, List.getElem?_append_right (by omega), show s.length + 1 - s.length = 1 by omega]
  rfl
theorem hit_none {s : List UInt8} {n : Int} (hs : noEnd s = true) (h : hitE s n) : n = -1 := by
  rcases h with ⟨_, h⟩ | ⟨i, _, hi, _, he⟩
  · exact h
  · rw [noE_not hi he] at hs
    cases hs
theorem hit_at {s r : List UInt8} {c : UInt8} {n : Int} (hs : noEnd s = true) (hc : isEnd c = true) (h : hitE (s ++ c :: r) n) : n = s.length := by
  have hno : ∀ j, j < s.length → isEnd ((s ++ c :: r).getD j 0) = false := fun j hj => by
    rw [List.getD_eq_getElem?_getD, List.getElem?_append_left hj, List.getElem?_eq_getElem hj, Option.getD_some]
    unfold noEnd at hs
    rw [List.all_eq_true] at hs
    have := hs _ (List.getElem_mem hj)
    simpa using this
  have hat : (s ++ c :: r).getD s.length 0 = c := by
    rw [List.getD_eq_getElem?_getD, List.getElem?_append_right (Nat.le_refl _), Nat.sub_self]
    rfl
  rcases h with ⟨h, _⟩ | ⟨i, rfl, hi, hn, he⟩
  · rw [noE_not (i := s.length) (by simp) (by rw [hat]; exact hc)] at h
    cases h
  · rcases Nat.lt_trichotomy i s.length with h | h | h
    · rw [hno i h] at he
      cases he
    · rw [h]
    · have := hn s.length h
      rw [hat, hc] at this
      cases this
end Pl

/-- what the reader's functions leave: its one cell written, at most -/
def Mm.Rd (W w' : World) (p : Nat) (l : List UInt8) : Prop := ∃ v', w'.heap[p]? = some (.cells #[v'] 79 (0, 0)) ∧ Mm.Bs W v' l

/-- where a line was read, the reader is behind it -/
def Mm.LineP (W w' : World) (p : Nat) (q : Int × List UInt8 × List UInt8) : Prop := (∃ l, Mm.Rd W w' p l) ∧ (q.1 = 0 → Mm.Rd W w' p q.2.2)
theorem Mm.LineP.bad {W w' : World} {p : Nat} {l : List UInt8} {q : Int × List UInt8 × List UInt8} (h : Mm.Rd W w' p l) (hq : q.1 ≠ 0) : Mm.LineP W w' p q := ⟨⟨l, h⟩, fun e => absurd e hq⟩
theorem Mm.LineP.ok {W w' : World} {p : Nat} {q : Int × List UInt8 × List UInt8} (h : Mm.Rd W w' p q.2.2) : Mm.LineP W w' p q := ⟨⟨_, h⟩, fun _ => h⟩

set_option maxHeartbeats 8000000 in
theorem rline_walk (W : World) (p : Nat) (v : Value) (l : List UInt8) (hv : Mm.Bs W v l) (hl : l.length < 9223372036854775807) (hU : Mm.U8 W) (hX : Mm.MaxI W) (w : World) (hw : Below W.heap.size W w) (hp : W.heap.size ≤ p)
    (hr : w.heap[p]? = some (.cells #[v] 79 (0, 0))) :
    Calls Tryd.prog 65 #[.pointer (some ⟨p, 0, none⟩)] w fun e w' => e = .returned (.tuple #[.string (Pl.B (Pl.lineR l).2.1), .int .i64 (Pl.lineR l).1]) ∧
      Mm.LineP W w' p (Pl.lineR l) ∧ w.grownBy w' (some p) := by
  obtain ⟨s, r, hs, hlr, hcase⟩ := Pl.line_cases l
  have hvs : ∃ a c, v = .slice a l.length c := by obtain ⟨a, c, h, _⟩ := hv; exact ⟨a, c, h⟩
  obtain ⟨a, c, rfl⟩ := hvs
  have HIA := Pl.hid (bindexAny_walk (.slice a l.length c) l w (hv.dn hw) (by omega) (hU.on hw) (hX.on hw))
  have HV := Pl.hid hv
  have HS := Pl.hid hs
  have HR := Pl.hid hr
  have HPL : Hid (p < w.heap.size) := (Array.getElem?_eq_some_iff.1 hr).1
  have HW := Pl.hid hw
  obtain ⟨N, hN⟩ : ∃ N, N = l.length := ⟨_, rfl⟩
  rw [← hN] at HIA HV HR hl
  have HN := Pl.hid hN
  obtain ⟨q, hq⟩ : ∃ q, q = Pl.lineR l := ⟨_, rfl⟩
  rw [← hq]
  have HQ := Pl.hid hq
  clear hq
  have k0 := Mm.cell_of HR.out (i := 0) rfl
  clear hU hX hw hr hp hs hv hN
  go_enter Tryd.func65, Tryd.ntmps65
  go_wp2_with fail
  refine HIA.out.mono ?_
  rintro e w1 ⟨⟨k, rfl, hk⟩, hb1⟩
  have HK := Pl.hid hk
  have HB1 := Pl.hid hb1
  have HR1 : Hid (w1.heap[p]? = some (.cells #[.slice a N c] 79 (0, 0))) := (hb1.block p HPL.out).trans HR.out
  clear k0 hk hb1 HIA
  have k1 := Mm.cell_of HR1.out (i := 0) rfl
  rcases hcase with rfl | ⟨r', rfl⟩ | rfl | ⟨x, r', hx, rfl⟩ | ⟨r', rfl⟩
  · rw [List.append_nil] at hlr
    subst hlr
    obtain rfl := Pl.hit_none HS.out HK.out
    obtain rfl := HQ.out.trans (Pl.line_none l HS.out)
    go_wp2_with fail
    go_ret2
    exact ⟨rfl, Mm.LineP.bad ⟨_, HR1.out, HV.out⟩ (by decide), Mm.grown_below HB1.out⟩
  · subst hlr
    obtain rfl := Pl.hit_at HS.out (by decide) HK.out
    obtain rfl := HQ.out.trans (Pl.line_lf s r' HS.out)
    obtain ⟨g, o, c', he, hc', hm⟩ := HV.out.some (by simp only [List.length_append, List.length_cons]; omega)
    injection he with e1 e2 e3
    subst e1 e3
    have hlen := HN.out
    simp only [List.length_append, List.length_cons, List.length_nil] at hlen
    have HG := Pl.hid (HW.out.trans (HB1.out.mono HW.out.size))
    have c0 := (hm s.length (by simp only [List.length_append, List.length_cons]; omega))
    rw [Pl.at_mid] at c0
    have d0 := (HG.out.cell (p := ⟨g, o + s.length, none⟩) (World.block_lt_of_cell? _ _ c0)).trans c0
    clear c0 e2
    rw [show ((10 : UInt8).toNat : Int) = 10 from rfl] at d0
    clear hm hc'
    go_wp2_with fail
    go_ret2
    exact ⟨rfl, Mm.LineP.bad ⟨_, HR1.out, HV.out⟩ (by decide), Mm.grown_below HB1.out⟩
  · subst hlr
    obtain rfl := Pl.hit_at HS.out (by decide) HK.out
    obtain rfl := HQ.out.trans (Pl.line_cr s HS.out)
    obtain ⟨g, o, c', he, hc', hm⟩ := HV.out.some (by simp only [List.length_append, List.length_cons]; omega)
    injection he with e1 e2 e3
    subst e1 e3
    have hlen := HN.out
    simp only [List.length_append, List.length_cons, List.length_nil] at hlen
    have HG := Pl.hid (HW.out.trans (HB1.out.mono HW.out.size))
    have c0 := (hm s.length (by simp only [List.length_append, List.length_cons]; omega))
    rw [Pl.at_mid] at c0
    have d0 := (HG.out.cell (p := ⟨g, o + s.length, none⟩) (World.block_lt_of_cell? _ _ c0)).trans c0
    clear c0 e2
    rw [show ((13 : UInt8).toNat : Int) = 13 from rfl] at d0
    have hn1 : ((s.length : Int) + 1 == (N : Int)) = true := beq_iff_eq.2 (by omega)
    clear hm hc'
    go_wp2_with fail
    go_ret2
    exact ⟨rfl, Mm.LineP.bad ⟨_, HR1.out, HV.out⟩ (by decide), Mm.grown_below HB1.out⟩
  · subst hlr
    obtain rfl := Pl.hit_at HS.out (by decide) HK.out
    obtain rfl := HQ.out.trans (Pl.line_crx s r' x hx HS.out)
    obtain ⟨g, o, c', he, hc', hm⟩ := HV.out.some (by simp only [List.length_append, List.length_cons]; omega)
    injection he with e1 e2 e3
    subst e1 e3
    have hlen := HN.out
    simp only [List.length_append, List.length_cons, List.length_nil] at hlen
    have HG := Pl.hid (HW.out.trans (HB1.out.mono HW.out.size))
    have c0 := (hm s.length (by simp only [List.length_append, List.length_cons]; omega))
    rw [Pl.at_mid] at c0
    have d0 := (HG.out.cell (p := ⟨g, o + s.length, none⟩) (World.block_lt_of_cell? _ _ c0)).trans c0
    clear c0 e2
    rw [show ((13 : UInt8).toNat : Int) = 13 from rfl] at d0
    have hn1 : ((s.length : Int) + 1 == (N : Int)) = false := beq_eq_false_iff_ne.2 (by omega)
    have c1 := (hm (s.length + 1) (by simp only [List.length_append, List.length_cons]; omega))
    rw [Pl.at_mid2] at c1
    have d1 := (HG.out.cell (p := ⟨g, o + (s.length + 1), none⟩) (World.block_lt_of_cell? _ _ c1)).trans c1
    clear c1 hm hc'
    have hx10 : ((x.toNat : Int) != 10) = true := bne_iff_ne.2 (fun e => hx (UInt8.toNat_inj.1 (by show x.toNat = 10; omega)))
    clear hx
    go_wp2_with fail
    go_ret2
    exact ⟨rfl, Mm.LineP.bad ⟨_, HR1.out, HV.out⟩ (by decide), Mm.grown_below HB1.out⟩
  · subst hlr
    obtain rfl := Pl.hit_at HS.out (by decide) HK.out
    obtain rfl := HQ.out.trans (Pl.line_ok s r' HS.out)
    obtain ⟨g, o, c', he, hc', hm⟩ := HV.out.some (by simp only [List.length_append, List.length_cons]; omega)
    injection he with e1 e2 e3
    subst e1 e3
    have hlen := HN.out
    simp only [List.length_append, List.length_cons, List.length_nil] at hlen
    have HG := Pl.hid (HW.out.trans (HB1.out.mono HW.out.size))
    have c0 := (hm s.length (by simp only [List.length_append, List.length_cons]; omega))
    rw [Pl.at_mid] at c0
    have d0 := (HG.out.cell (p := ⟨g, o + s.length, none⟩) (World.block_lt_of_cell? _ _ c0)).trans c0
    clear c0 e2
    rw [show ((13 : UInt8).toNat : Int) = 13 from rfl] at d0
    have hn1 : ((s.length : Int) + 1 == (N : Int)) = false := beq_eq_false_iff_ne.2 (by omega)
    have c1 := (hm (s.length + 1) (by simp only [List.length_append, List.length_cons]; omega))
    rw [Pl.at_mid2] at c1
    have d1 := (HG.out.cell (p := ⟨g, o + (s.length + 1), none⟩) (World.block_lt_of_cell? _ _ c1)).trans c1
    clear c1 hm hc'
    rw [show ((10 : UInt8).toNat : Int) = 10 from rfl] at d1
    have hfz := Mm.frozen_of (i := 0) HR1.out
    have HF : Hid (Mm.Bs w1 (.slice (some ⟨g, o, none⟩) s.length c) s) := (HV.out.front).dn HG.out
    have hcc : N ≤ c := by
      obtain ⟨_, _, e, h, _⟩ := HV.out
      injection e with e1 e2 e3
      rw [← HN.out, ← e3] at h
      exact h
    have HBK : Hid (Mm.Bs W (.slice (some ⟨g, o + (s.length + 2), none⟩) r'.length (c - (s.length + 2))) r') := by
      have h := (show Mm.Bs W (.slice (some ⟨g, o, none⟩) N c) ((s ++ [13, 10]) ++ r') by have := HV.out; simpa using this).back
      show Mm.Bs _ _ _
      simpa using h
    by_cases hc2 : c = s.length + 2
    · have hr0 : r'.length = 0 := by omega
      have HNIL : Hid (Mm.Bs W (.slice (some ⟨g, o, none⟩) 0 0) r') := ⟨_, _, by rw [hr0], by omega, fun e => (by cases e), fun h => by omega⟩
      subst hc2
      go_wp2_with (refine Mm.wp_strAt w1 rfl _ (by rfl) s _ HF.out (by rfl) ?_)
      go_ret2
      exact ⟨rfl, Mm.LineP.ok ⟨_, Mm.heap_set HR1.out 0 _, HNIL.out⟩, Mm.grown_step (Mm.grown_below HB1.out) (Mm.grown_set _ _ _ _) (fun k hk => .inl hk.symm)⟩
    · have hc3 : ¬ (c - (s.length + 2) = 0) := by omega
      go_wp2_with (refine Mm.wp_strAt w1 rfl _ (by rfl) s _ HF.out (by rfl) ?_)
      go_ret2
      have e : s.length + (r'.length + 1 + 1) - (s.length + 2) = r'.length := by omega
      rw [e]
      exact ⟨rfl, Mm.LineP.ok ⟨_, Mm.heap_set HR1.out 0 _, HBK.out⟩, Mm.grown_step (Mm.grown_below HB1.out) (Mm.grown_set _ _ _ _) (fun k hk => .inl hk.symm)⟩
end Go.Proofs.YtakldjdohgmeiaaDoor

namespace Go.Proofs.YtakldjdohgmeiaaDoor
open Go.RowKit
set_option maxRecDepth 20000

namespace RT
open Pl
theorem bulkR_short {n : Nat} {l : List UInt8} (h : l.length < n + 2) : bulkR n l = (5, [], []) := by unfold bulkR; rw [if_pos h]
theorem bulkR_at (s r : List UInt8) (x y : UInt8) : bulkR s.length (s ++ x :: y :: r) = if x = 13 ∧ y = 10 then (0, s, r) else (160, [], []) := by
  unfold bulkR slc
  rw [if_neg (by simp)]
  have e1 : (s ++ x :: y :: r).drop s.length = x :: y :: r := by simp
  have e2 : (s ++ x :: y :: r).drop (s.length + 2) = r := by rw [← List.drop_drop, e1]; rfl
  have e3 : (s ++ x :: y :: r).take s.length = s := by simp
  rw [e1, e2, e3, show s.length + 2 - s.length = 2 by omega]
  by_cases hx : x = 13 ∧ y = 10
  · rw [if_pos hx, if_pos (by rw [hx.1, hx.2]; rfl)]
  · rw [if_neg hx, if_neg (fun e => hx (by simpa using e))]
end RT

set_option maxHeartbeats 8000000 in
theorem rbulk_walk (W : World) (p : Nat) (v : Value) (l : List UInt8) (n : Nat) (hn : n ≤ 16777216) (hv : Mm.Bs W v l) (hl : l.length < 9223372036854775807) (w : World) (hw : Below W.heap.size W w)
    (hr : w.heap[p]? = some (.cells #[v] 79 (0, 0))) :
    Calls Tryd.prog 67 #[.pointer (some ⟨p, 0, none⟩), .int .i64 n] w fun e w' => e = .returned (.tuple #[.string (Pl.B (RT.bulkR n l).2.1), .int .i64 (RT.bulkR n l).1]) ∧
      Mm.LineP W w' p (RT.bulkR n l) ∧ w.grownBy w' (some p) := by
  have hvs : ∃ a c, v = .slice a l.length c := by obtain ⟨a, c, h, _⟩ := hv; exact ⟨a, c, h⟩
  obtain ⟨a, c, rfl⟩ := hvs
  have HV := Pl.hid hv
  have HR := Pl.hid hr
  have HW := Pl.hid hw
  obtain ⟨N, hN⟩ : ∃ N, N = l.length := ⟨_, rfl⟩
  rw [← hN] at HV HR hl
  obtain ⟨q, hq⟩ : ∃ q, q = RT.bulkR n l := ⟨_, rfl⟩
  rw [← hq]
  have HQ := Pl.hid hq
  have HN := Pl.hid hN
  have k0 := Mm.cell_of HR.out (i := 0) rfl
  clear hq hv hr hw hN
  rcases Nat.lt_or_ge N (n + 2) with hlt | hge
  · obtain rfl := HQ.out.trans (RT.bulkR_short (by rw [← HN.out]; exact hlt))
    have hc : (N : Int) < (n : Int) + 2 := by omega
    go_enter Tryd.func67, Tryd.ntmps67
    go_wp2_with fail
    go_ret2
    exact ⟨rfl, Mm.LineP.bad ⟨_, HR.out, HV.out⟩ (by decide), Mm.grown_below (Below.refl _ _)⟩
  · obtain ⟨s, x, y, r, hlr, hsl⟩ : ∃ s x y r, l = s ++ x :: y :: r ∧ s.length = n := by
      refine ⟨l.take n, l[n]'(by rw [← HN.out]; omega), l[n+1]'(by rw [← HN.out]; omega), l.drop (n + 2), ?_, by rw [List.length_take, ← HN.out]; omega⟩
      have e1 := List.drop_eq_getElem_cons (l := l) (i := n) (by rw [← HN.out]; omega)
      have e2 := List.drop_eq_getElem_cons (l := l) (i := n + 1) (by rw [← HN.out]; omega)
      conv => lhs; rw [← List.take_append_drop n l, e1, e2]
    subst hlr
    have hc : ¬ (N : Int) < (n : Int) + 2 := by omega
    obtain ⟨g, o, c', he, hc', hm⟩ := HV.out.some (by simp only [List.length_append, List.length_cons]; omega)
    injection he with e1 e2 e3
    subst e1 e3
    have hNc : N ≤ c := by rw [HN.out]; exact hc'
    have HF : Hid (Mm.Bs w (.slice (some ⟨g, o, none⟩) n c) s) := by have := (HV.out.front).dn HW.out; rw [hsl] at this; exact this
    have HM : Hid (Mm.Bs w (.slice (some ⟨g, o + n, none⟩) (n + 2 - n) (c - n)) [x, y]) := by
      rw [show n + 2 - n = 2 by omega]
      show Mm.Bs _ _ _
      have h1 := (show Mm.Bs W (.slice (some ⟨g, o, none⟩) N c) (s ++ ([x, y] ++ r)) by have := HV.out; simpa using this).back
      rw [hsl] at h1
      exact h1.front.dn HW.out
    have HBK : Hid (Mm.Bs W (.slice (some ⟨g, o + (n + 2), none⟩) r.length (c - (n + 2))) r) := by
      have h := (show Mm.Bs W (.slice (some ⟨g, o, none⟩) N c) ((s ++ [x, y]) ++ r) by have := HV.out; simpa using this).back
      rw [List.length_append, hsl] at h
      exact h
    have HRL : Hid (N = n + 2 + r.length) := by show _ = _; rw [HN.out]; simp; omega
    rw [← hsl] at HQ
    have HQ2 := Pl.hid (HQ.out.trans (RT.bulkR_at s r x y))
    have hfz := Mm.frozen_of (i := 0) HR.out
    have hn2 : n + 2 ≤ N := hge
    have hn0 : n ≤ c := by omega
    have hn3 : n + 2 ≤ c := by omega
    clear hm hc' e2 hsl
    obtain ⟨E, hE⟩ : ∃ E, E = Pl.B [x, y] := ⟨_, rfl⟩
    have hEl : E.toList = [x, y] := by rw [hE, Lib.toList_data]; exact Pl.L_B _
    have HE := Pl.hid hE
    clear hE
    by_cases hxy : x = 13 ∧ y = 10
    · obtain rfl := HQ2.out.trans (if_pos hxy)
      have heq : (E.toList == [13, 10]) = true := by rw [hEl, hxy.1, hxy.2]; rfl
      clear hEl hxy
      by_cases hc2 : c = n + 2
      · have hr0 : r.length = 0 := by have := HRL.out; omega
        have HNIL : Hid (Mm.Bs W (.slice (some ⟨g, o, none⟩) 0 0) r) := ⟨_, _, by rw [hr0], by omega, fun e => (by cases e), fun h => by omega⟩
        have hc4 : c - (n + 2) = 0 := by omega
        have hN2 : N - (n + 2) = 0 := by omega
        clear hc2
        go_enter Tryd.func67, Tryd.ntmps67
        go_wp2_with (first | (refine Mm.wp_strAt w rfl _ (by rfl) s _ HF.out (by rfl) ?_) | (refine Mm.wp_strAt w rfl _ (by rfl) [x, y] _ HM.out (by rfl) ?_; rw [← HE.out]))
        go_ret2
        exact ⟨rfl, Mm.LineP.ok ⟨_, Mm.heap_set HR.out 0 _, HNIL.out⟩, Mm.grown_set _ _ _ _⟩
      · have hc4 : ¬ (c - (n + 2) = 0) := by omega
        go_enter Tryd.func67, Tryd.ntmps67
        go_wp2_with (first | (refine Mm.wp_strAt w rfl _ (by rfl) s _ HF.out (by rfl) ?_) | (refine Mm.wp_strAt w rfl _ (by rfl) [x, y] _ HM.out (by rfl) ?_; rw [← HE.out]))
        go_ret2
        have e : N - (n + 2) = r.length := by have := HRL.out; omega
        rw [e]
        exact ⟨rfl, Mm.LineP.ok ⟨_, Mm.heap_set HR.out 0 _, HBK.out⟩, Mm.grown_set _ _ _ _⟩
    · obtain rfl := HQ2.out.trans (if_neg hxy)
      have heq : (E.toList == [13, 10]) = false := by
        apply Bool.eq_false_iff.2
        intro e
        rw [hEl, beq_iff_eq] at e
        simp only [List.cons.injEq, and_true] at e
        exact hxy e
      clear hEl hxy
      go_enter Tryd.func67, Tryd.ntmps67
      go_wp2_with (first | (refine Mm.wp_strAt w rfl _ (by rfl) s _ HF.out (by rfl) ?_) | (refine Mm.wp_strAt w rfl _ (by rfl) [x, y] _ HM.out (by rfl) ?_; rw [← HE.out]))
      go_ret2
      exact ⟨rfl, Mm.LineP.bad ⟨_, HR.out, HV.out⟩ (by decide), Mm.grown_below (Below.refl _ _)⟩
end Go.Proofs.YtakldjdohgmeiaaDoor

namespace Go.Proofs.YtakldjdohgmeiaaDoor
open Go.RowKit
set_option maxRecDepth 20000

namespace Mm
/-- the four cells of a reply without a list -/
def leaf (k : Int) (s : ByteArray) (n : Int) : List Value := [.int .i64 k, .string s, .int .i64 n, .slice none 0 0]
theorem leaf_rep (w : World) (k : Int) (s : ByteArray) (n : Int) : RepB w (.mk k s n []) [.int .i64 k, .string s, .int .i64 n, .slice none 0 0] [] :=
  .mk k s n [] (.slice none 0 0) [] [] ⟨rfl, .inl ⟨rfl, rfl⟩⟩ .nil
theorem leaf_own (w : World) (lo : Nat) (k : Int) (s : ByteArray) (n : Int) : OwnT w lo (.mk k s n []) [.int .i64 k, .string s, .int .i64 n, .slice none 0 0] :=
  ⟨[], leaf_rep w k s n, List.nodup_nil, fun g hg => by cases hg⟩
theorem leaf_x (w : World) (k : Int) (s : ByteArray) (n : Int) : RepX w (.mk k s n []) [.int .i64 k, .string s, .int .i64 n, .slice none 0 0] := ⟨[], leaf_rep w k s n⟩
theorem leaf_one {k : Int} {s : ByteArray} {n : Int} : ∀ u ∈ [Value.int .i64 k, Value.string s, Value.int .i64 n, Value.slice none 0 0], u.oneCell' = true := by
  intro u hu
  simp only [List.mem_cons, List.mem_nil_iff, or_false] at hu
  rcases hu with rfl | rfl | rfl | rfl <;> rfl
/-- a block of one's own that was stored into -/
theorem newcell4 {w1 w2 : World} {o : Array Value} {T : TypeId} (hg : (w1.alloc (.cells o T)).grownBy w2 (some w1.heap.size)) : Below w1.heap.size w1 w2 :=
  ((Below.refl w1.heap.size w1).alloc (Nat.le_refl _) (.cells o T)).grown hg (by simp) (fun k hk => by injection hk with hk; omega)
end Mm
theorem mk_simple (s : ByteArray) (w : World) : Calls Tryd.prog 26 #[.string s] w fun e w' => e = .returned (.agg #[.int .i64 1, .string s, .int .i64 0, .slice none 0 0]) ∧ Below w.heap.size w w' := by
  go_enter Tryd.func26, Tryd.ntmps26
  go_wp2_with (refine Mm.wp_store4 _ rfl _ _ rfl w.heap.size _ _ _ _ _ _ (heap_alloc_new w _) rfl rfl rfl Mm.leaf_one ?_; intro w2 hw2 _ hg2; have HW2 := Pl.hid hw2; have HB2 := Pl.hid (Mm.newcell4 hg2); clear hw2 hg2)
  refine bodyPost_ret (Mm.res_cell rfl _ w2 w.heap.size _ _ _ _ _ _ rfl HW2.out) rfl ?_
  exact ⟨rfl, HB2.out⟩
theorem mk_int (n : Int) (w : World) : Calls Tryd.prog 29 #[.int .i64 n] w fun e w' => e = .returned (.agg #[.int .i64 3, .string ⟨#[]⟩, .int .i64 n, .slice none 0 0]) ∧ Below w.heap.size w w' := by
  go_enter Tryd.func29, Tryd.ntmps29
  go_wp2_with (refine Mm.wp_store4 _ rfl _ _ rfl w.heap.size _ _ _ _ _ _ (heap_alloc_new w _) rfl rfl rfl Mm.leaf_one ?_; intro w2 hw2 _ hg2; have HW2 := Pl.hid hw2; have HB2 := Pl.hid (Mm.newcell4 hg2); clear hw2 hg2)
  refine bodyPost_ret (Mm.res_cell rfl _ w2 w.heap.size _ _ _ _ _ _ rfl HW2.out) rfl ?_
  exact ⟨rfl, HB2.out⟩
theorem mk_bulk (s : ByteArray) (w : World) : Calls Tryd.prog 31 #[.string s] w fun e w' => e = .returned (.agg #[.int .i64 4, .string s, .int .i64 0, .slice none 0 0]) ∧ Below w.heap.size w w' := by
  go_enter Tryd.func31, Tryd.ntmps31
  go_wp2_with (refine Mm.wp_store4 _ rfl _ _ rfl w.heap.size _ _ _ _ _ _ (heap_alloc_new w _) rfl rfl rfl Mm.leaf_one ?_; intro w2 hw2 _ hg2; have HW2 := Pl.hid hw2; have HB2 := Pl.hid (Mm.newcell4 hg2); clear hw2 hg2)
  refine bodyPost_ret (Mm.res_cell rfl _ w2 w.heap.size _ _ _ _ _ _ rfl HW2.out) rfl ?_
  exact ⟨rfl, HB2.out⟩
theorem mk_null (w : World) : Calls Tryd.prog 33 #[] w fun e w' => e = .returned (.agg #[.int .i64 5, .string ⟨#[]⟩, .int .i64 0, .slice none 0 0]) ∧ Below w.heap.size w w' := by
  go_enter Tryd.func33, Tryd.ntmps33
  go_wp2_with (refine Mm.wp_store4 _ rfl _ _ rfl w.heap.size _ _ _ _ _ _ (heap_alloc_new w _) rfl rfl rfl Mm.leaf_one ?_; intro w2 hw2 _ hg2; have HW2 := Pl.hid hw2; have HB2 := Pl.hid (Mm.newcell4 hg2); clear hw2 hg2)
  refine bodyPost_ret (Mm.res_cell rfl _ w2 w.heap.size _ _ _ _ _ _ rfl HW2.out) rfl ?_
  exact ⟨rfl, HB2.out⟩
theorem mk_rsimple (s : ByteArray) (w : World) : Calls Tryd.prog 27 #[.string s] w fun e w' => e = .returned (.agg #[.int .i64 1, .string s, .int .i64 0, .slice none 0 0]) ∧ Below w.heap.size w w' := by
  go_enter Tryd.func27, Tryd.ntmps27
  go_wp2_with (refine Mm.wp_store4 _ rfl _ _ rfl w.heap.size _ _ _ _ _ _ (heap_alloc_new w _) rfl rfl rfl Mm.leaf_one ?_; intro w2 hw2 _ hg2; have HW2 := Pl.hid hw2; have HB2 := Pl.hid (Mm.newcell4 hg2); clear hw2 hg2)
  refine bodyPost_ret (Mm.res_cell rfl _ w2 w.heap.size _ _ _ _ _ _ rfl HW2.out) rfl ?_
  exact ⟨rfl, HB2.out⟩
theorem mk_rint (n : Int) (w : World) : Calls Tryd.prog 30 #[.int .i64 n] w fun e w' => e = .returned (.agg #[.int .i64 3, .string ⟨#[]⟩, .int .i64 n, .slice none 0 0]) ∧ Below w.heap.size w w' := by
  go_enter Tryd.func30, Tryd.ntmps30
  go_wp2_with (refine Mm.wp_store4 _ rfl _ _ rfl w.heap.size _ _ _ _ _ _ (heap_alloc_new w _) rfl rfl rfl Mm.leaf_one ?_; intro w2 hw2 _ hg2; have HW2 := Pl.hid hw2; have HB2 := Pl.hid (Mm.newcell4 hg2); clear hw2 hg2)
  refine bodyPost_ret (Mm.res_cell rfl _ w2 w.heap.size _ _ _ _ _ _ rfl HW2.out) rfl ?_
  exact ⟨rfl, HB2.out⟩
theorem mk_rbulk (s : ByteArray) (w : World) : Calls Tryd.prog 32 #[.string s] w fun e w' => e = .returned (.agg #[.int .i64 4, .string s, .int .i64 0, .slice none 0 0]) ∧ Below w.heap.size w w' := by
  go_enter Tryd.func32, Tryd.ntmps32
  go_wp2_with (refine Mm.wp_store4 _ rfl _ _ rfl w.heap.size _ _ _ _ _ _ (heap_alloc_new w _) rfl rfl rfl Mm.leaf_one ?_; intro w2 hw2 _ hg2; have HW2 := Pl.hid hw2; have HB2 := Pl.hid (Mm.newcell4 hg2); clear hw2 hg2)
  refine bodyPost_ret (Mm.res_cell rfl _ w2 w.heap.size _ _ _ _ _ _ rfl HW2.out) rfl ?_
  exact ⟨rfl, HB2.out⟩
theorem mk_rnull (w : World) : Calls Tryd.prog 34 #[] w fun e w' => e = .returned (.agg #[.int .i64 5, .string ⟨#[]⟩, .int .i64 0, .slice none 0 0]) ∧ Below w.heap.size w w' := by
  go_enter Tryd.func34, Tryd.ntmps34
  go_wp2_with (refine Mm.wp_store4 _ rfl _ _ rfl w.heap.size _ _ _ _ _ _ (heap_alloc_new w _) rfl rfl rfl Mm.leaf_one ?_; intro w2 hw2 _ hg2; have HW2 := Pl.hid hw2; have HB2 := Pl.hid (Mm.newcell4 hg2); clear hw2 hg2)
  refine bodyPost_ret (Mm.res_cell rfl _ w2 w.heap.size _ _ _ _ _ _ rfl HW2.out) rfl ?_
  exact ⟨rfl, HB2.out⟩
end Go.Proofs.YtakldjdohgmeiaaDoor

namespace Go.Proofs.YtakldjdohgmeiaaDoor
open Go.RowKit
set_option maxRecDepth 20000

namespace Mm
open Pl
/-- 'x[k:]' of bytes: the result is named alone -/
theorem wp_sliceL {ops : Array Oper} {rest : List Oper} {o : Oper} {a : Act} {Q : Exit → Act → World → Prop} (w : World) (hgd : o.guard = none) (x i : Operand) (ho : o.op = .slice 24 x (some i) none none)
    (ad : Option Addr) (n c k : Nat) (hx : a.eval x = .slice ad n c) (hi : a.eval i = .int .i64 k) (hk : k ≤ n) (hK : ∀ v1, v1 = Go.sliced ad k n c 1 → wpList Tryd.prog ops Q rest (a.put o.dst v1) w) : wpList Tryd.prog ops Q (o :: rest) a w := by
  refine wpList_plain hgd fun K hK' => ?_
  have h5 : Tryd.prog.underlying 24 = some (.slice (Tryd.prog.elem 24)) := by kernel_rfl
  have hs : ∀ w, (sizeOf (Tryd.prog.elem 24)).run Tryd.prog w = .ok 1 w := Tryd.sizeOf5
  have hrun : (Instr.sliceAt 24 (.slice ad n c) (some (.int .i64 k)) none none).run Tryd.prog w = .ok (Go.sliced ad k n c 1) w := by
    rw [run_sliceAt_slice (h := h5), run_slice_l (ht := h5) (h0 := by omega) (h1 := by omega), hs]
    simp [Result.andThen]
  unfold Oper.wp execOp
  simp only [ho, hx, hi, Option.map, Sem.run_bind, Sem.run_pure, Result.andThen_ok, hrun]
  exact hK' _ _ (hK _ rfl)
theorem bs_sliced {w : World} {g o n c k : Nat} {s r : List UInt8} (h : Bs w (.slice (some ⟨g, o, none⟩) n c) (s ++ r)) (hk : k = s.length) : Bs w (Go.sliced (some ⟨g, o, none⟩) k n c 1) r := by
  subst hk
  obtain ⟨a', c', e, hc, hn, hm⟩ := id h
  injection e with e1 e2 e3
  subst e1 e3
  have hb := h.back
  rw [List.length_append] at hc e2
  unfold Go.sliced
  by_cases h0 : c = s.length
  · rw [if_pos h0]
    have hr : r.length = 0 := by omega
    exact ⟨_, _, by rw [e2, hr, Nat.add_zero, Nat.sub_self], by rw [hr]; exact Nat.zero_le _, fun e => (by cases e), fun h => by omega⟩
  · rw [if_neg h0]
    have e4 : (some (⟨g, o, none⟩ : Addr)).map (fun q => q.add (s.length * 1)) = some ⟨g, o + s.length, none⟩ := by
      simp [Addr.add]
    rw [e4, show n - s.length = r.length by omega]
    exact hb
theorem zero_own (w : World) (lo : Nat) : OwnT w lo RT.nul [.int .i64 0, .string ⟨#[]⟩, .int .i64 0, .slice none 0 0] := leaf_own w lo 0 ⟨#[]⟩ 0
/-- where a reply was read, the reader is behind it -/
def DecP (W w' : World) (p : Nat) (q : Int × RT × List UInt8) : Prop := (∃ l, Rd W w' p l) ∧ (q.1 = 0 → Rd W w' p q.2.2)
theorem DecP.bad {W w' : World} {p : Nat} {l : List UInt8} {q : Int × RT × List UInt8} (h : Rd W w' p l) (hq : q.1 ≠ 0) : DecP W w' p q := ⟨⟨l, h⟩, fun e => absurd e hq⟩
theorem DecP.ok {W w' : World} {p : Nat} {q : Int × RT × List UInt8} (h : Rd W w' p q.2.2) : DecP W w' p q := ⟨⟨_, h⟩, fun _ => h⟩
/-- what reading a reply within so many arrays does -/
def ReadC (W : World) (p d : Nat) : Prop := ∀ (l : List UInt8) (v : Value), Bs W v l → l.length ≤ 100000000 → ∀ w, Below W.heap.size W w → w.heap[p]? = some (.cells #[v] 79 (0, 0)) →
  Calls Tryd.prog 52 #[.pointer (some ⟨p, 0, none⟩), .int .i64 (8 - (d : Int))] w fun e w' => ∃ c0 c1 c2 c3, e = .returned (.tuple #[.agg #[c0, c1, c2, c3], .int .i64 (RT.decR d l).1]) ∧
    OwnT w' w.heap.size (RT.decR d l).2.1 [c0, c1, c2, c3] ∧ DecP W w' p (RT.decR d l) ∧ w.grownBy w' (some p)
end Mm
namespace RT
open Pl
theorem kdx (f : UInt8) : Lib.indexByte [43, 45, 58, 36, 42] f = kd f - 1 := by
  unfold kd
  by_cases h1 : f = 43
  · subst h1; decide
  · by_cases h2 : f = 45
    · subst h2; decide
    · by_cases h3 : f = 58
      · subst h3; decide
      · by_cases h4 : f = 36
        · subst h4; decide
        · by_cases h5 : f = 42
          · subst h5; decide
          · rw [if_neg h1, if_neg h2, if_neg h3, if_neg h4, if_neg h5]
            have e1 : ((43 : UInt8) == f) = false := beq_eq_false_iff_ne.2 (fun e => h1 e.symm)
            have e2 : ((45 : UInt8) == f) = false := beq_eq_false_iff_ne.2 (fun e => h2 e.symm)
            have e3 : ((58 : UInt8) == f) = false := beq_eq_false_iff_ne.2 (fun e => h3 e.symm)
            have e4 : ((36 : UInt8) == f) = false := beq_eq_false_iff_ne.2 (fun e => h4 e.symm)
            have e5 : ((42 : UInt8) == f) = false := beq_eq_false_iff_ne.2 (fun e => h5 e.symm)
            simp [Lib.indexByte, e1, e2, e3, e4, e5]
theorem kd36 (f : UInt8) : ((f.toNat : Int) == 36) = decide (kd f = 4) := by
  by_cases h : f = 36
  · subst h; decide
  · have h1 : kd f ≠ 4 := fun e => by
      unfold kd at e
      repeat' split at e
      all_goals first | exact h (by assumption) | exact absurd e (by decide)
    rw [decide_eq_false h1]
    exact beq_eq_false_iff_ne.2 (fun e => h (UInt8.toNat_inj.1 (by show f.toNat = 36; omega)))
theorem kd_range (f : UInt8) : 0 ≤ kd f ∧ kd f ≤ 5 := by
  unfold kd
  repeat' split
  all_goals decide
theorem hd0 {f : UInt8} {r : List UInt8} (h : kd f = 0) : hdR (f :: r) = .bad 160 := by rw [hdR, if_pos h]
theorem hd1 {f : UInt8} {r : List UInt8} (h : kd f ≠ 0) (h1 : (lineR r).1 ≠ 0) : hdR (f :: r) = .bad (lineR r).1 := by rw [hdR, if_neg h, if_pos h1]
theorem hd2 {f : UInt8} {r : List UInt8} (h : kd f ≠ 0) (h1 : (lineR r).1 = 0) (h2 : kd f ≤ 2) : hdR (f :: r) = .one (.mk (kd f) (B (lineR r).2.1) 0 []) (lineR r).2.2 := by
  rw [hdR, if_neg h, if_neg (by simp [h1]), if_pos h2]
theorem hd3 {f : UInt8} {r : List UInt8} (h : kd f ≠ 0) (h1 : (lineR r).1 = 0) (h2 : ¬ kd f ≤ 2) (h3 : rIc (lineR r).2.1 ≠ 0 ∨ (3 < kd f ∧ rIv (lineR r).2.1 < -1)) : hdR (f :: r) = .bad 160 := by
  rw [hdR, if_neg h, if_neg (by simp [h1]), if_neg h2, if_pos h3]
theorem hd4 {f : UInt8} {r : List UInt8} (h : kd f ≠ 0) (h1 : (lineR r).1 = 0) (h2 : ¬ kd f ≤ 2) (h3 : ¬ (rIc (lineR r).2.1 ≠ 0 ∨ (3 < kd f ∧ rIv (lineR r).2.1 < -1))) :
    hdR (f :: r) = numR (kd f) (rIv (lineR r).2.1) (lineR r).2.2 := by
  rw [hdR, if_neg h, if_neg (by simp [h1]), if_neg h2, if_neg h3]
end RT
end Go.Proofs.YtakldjdohgmeiaaDoor

namespace Go.Proofs.YtakldjdohgmeiaaDoor
open Go.RowKit
set_option maxRecDepth 20000

/-- a node of the list -/
structure Nd where
  k : Int
  s : ByteArray
  n : Int
  c : Int
def ndW : List Nd → Nat
  | [] => 0
  | x :: l => x.s.size + 25 + ndW l
theorem ndW_drop (l : List Nd) (i : Nat) (h : i < l.length) : ndW (l.drop i) = (l[i]'h).s.size + 25 + ndW (l.drop (i + 1)) := by
  rw [List.drop_eq_getElem_cons h]
  rfl
theorem ndW_le : ∀ (l : List Nd) (i : Nat), ndW (l.drop i) ≤ ndW l
  | [], i => by simp [ndW]
  | x :: l, 0 => by simp
  | x :: l, i + 1 => by
    have := ndW_le l i
    simp only [List.drop_succ_cons, ndW]
    omega

theorem ndW_len : ∀ l : List Nd, 25 * l.length ≤ ndW l
  | [] => by simp [ndW]
  | x :: l => by
    have := ndW_len l
    simp only [ndW, List.length_cons]
    omega

namespace Mm
/-- a list of nodes that came in -/
def NodesV (w : World) (v : Value) (l : List Nd) : Prop :=
  ∃ p cap, v = .slice p l.length cap ∧ (l.length = 0 ∨ ∃ b o, p = some ⟨b, o, none⟩ ∧ b < w.heap.size ∧ ∀ i (hi : i < l.length),
    w.cell? ⟨b, o + i * 4, none⟩ = some (.int .i64 (l[i]'hi).k) ∧ w.cell? ⟨b, o + i * 4 + 1, none⟩ = some (.string (l[i]'hi).s) ∧ w.cell? ⟨b, o + i * 4 + 2, none⟩ = some (.int .i64 (l[i]'hi).n) ∧ w.cell? ⟨b, o + i * 4 + 3, none⟩ = some (.int .i64 (l[i]'hi).c))
end Mm

set_option maxHeartbeats 4000000 in
theorem tree_walk (W : World) (v : Value) (l : List Nd) (hv : Mm.NodesV W v l) (hl : ndW l ≤ 16777216) (hI : ∀ nd ∈ l, Pl.In64 nd.n) : ∀ (g : Nat) (dp : Int), g ≤ 12 → dp = 12 - (g : Int) → ∀ (at_ : Nat) (w : World), at_ ≤ l.length → Below W.heap.size W w →
    Calls Tryd.prog 18 #[v, .int .i64 at_, .int .i64 dp] w fun e w' => ∃ (t : RT) (c0 c1 c2 c3 : Value) (j : Nat), e = .returned (.tuple #[.agg #[c0, c1, c2, c3], .int .i64 j]) ∧ Mm.OwnT w' w.heap.size t [c0, c1, c2, c3] ∧
      Below w.heap.size w w' ∧ at_ ≤ j ∧ j ≤ l.length ∧ (at_ < l.length → at_ < j ∧ t.sz + ndW (l.drop j) ≤ ndW (l.drop at_)) ∧ t.sz ≤ ndW l + 25 ∧ t.In := by
  have HII := Pl.hid hI
  clear hI
  intro g
  induction g using Nat.strongRecOn with
  | _ g ih =>
    intro dp hg hdp at_ w hat hb
    have hlen : l.length ≤ 671088 := by have := ndW_len l; omega
    have HDP := Pl.hid hdp
    clear hdp
    have IH := Pl.hid ih
    have HB := Pl.hid hb
    clear ih hb
    obtain ⟨p, cap, rfl, hv⟩ := hv
    go_enter Tryd.func18, Tryd.ntmps18
    rcases Nat.lt_or_ge at_ l.length with hlt | hge
    · rcases hv with h0 | ⟨b, o, rfl, hbl, hc⟩
      · omega
      have HC := Pl.hid hc
      have hge : ¬ l.length ≤ at_ := by omega
      clear hc
      go_wp2_with fail
      generalize hw1 : World.alloc w _ = w1
      have HS1 : Hid (w1.heap.size = w.heap.size + 1) := by show _ = _; rw [← hw1]; simp
      have HB1 : Hid (Below w.heap.size w w1) := by rw [← hw1]; exact (Below.refl _ _).alloc (Nat.le_refl _) _
      have HW1 : Hid (w1.heap[w.heap.size]? = some (.cells #[.int .i64 0, .string ⟨#[]⟩, .int .i64 0, .slice none 0 0] 31 (0, 0))) := by show _ = _; rw [← hw1]; exact heap_alloc_new w _
      clear hw1
      have HBW : Hid (Below W.heap.size W w1) := HB.out.trans (HB1.out.mono HB.out.size)
      obtain ⟨e0, e1, e2, e3⟩ := HC.out at_ hlt
      have f0 : w1.cell? ⟨b, o + at_ * 4, none⟩ = _ := (HBW.out.cell (p := ⟨b, o + at_ * 4, none⟩) hbl).trans e0
      have f1 : w1.cell? ⟨b, o + at_ * 4 + 1, none⟩ = _ := (HBW.out.cell (p := ⟨b, o + at_ * 4 + 1, none⟩) hbl).trans e1
      have f2 : w1.cell? ⟨b, o + at_ * 4 + 2, none⟩ = _ := (HBW.out.cell (p := ⟨b, o + at_ * 4 + 2, none⟩) hbl).trans e2
      have f3 : w1.cell? ⟨b, o + at_ * 4 + 3, none⟩ = _ := (HBW.out.cell (p := ⟨b, o + at_ * 4 + 3, none⟩) hbl).trans e3
      clear e0 e1 e2 e3
      have HBA : Hid (Below w1.heap.size w1 (w1.alloc (.cells #[.int .i64 0, .string ⟨#[]⟩, .int .i64 0, .slice none 0 0] 31))) := (Below.refl _ _).alloc (Nat.le_refl _) _
      have hbl1 : b < w1.heap.size := Nat.lt_of_lt_of_le hbl HBW.out.size
      have g0 := (HBA.out.cell (p := ⟨b, o + at_ * 4, none⟩) hbl1).trans f0
      have g1 := (HBA.out.cell (p := ⟨b, o + at_ * 4 + 1, none⟩) hbl1).trans f1
      have g2 := (HBA.out.cell (p := ⟨b, o + at_ * 4 + 2, none⟩) hbl1).trans f2
      go_region
      generalize hw2 : World.drew _ = w2
      obtain ⟨p, hp⟩ : ∃ p, p = w1.heap.size := ⟨_, rfl⟩
      obtain ⟨r, hr⟩ : ∃ r, r = w.heap.size := ⟨_, rfl⟩
      have HP2 : Hid (w2.heap[p]? = some (.cells #[.int .i64 (l[at_]'hlt).k, .string (l[at_]'hlt).s, .int .i64 (l[at_]'hlt).n, .slice none 0 0] 31 (0, 0))) := by show _ = _; rw [← hw2, hp]; exact heap_alloc_new w1 _
      have HB2 : Hid (Below w1.heap.size w1 w2) := by rw [← hw2]; exact ((Below.refl _ _).alloc (Nat.le_refl _) _).drew
      have HS2 : Hid (w2.heap.size = w1.heap.size + 1) := by show _ = _; rw [← hw2]; simp
      have HR2 : Hid (w2.heap[r]? = some (.cells #[.int .i64 0, .string ⟨#[]⟩, .int .i64 0, .slice none 0 0] 31 (0, 0))) := by
        rw [hr]
        exact (HB2.out.block _ (by rw [HS1.out]; exact Nat.lt_succ_self _)).trans HW1.out
      have g3 := (HB2.out.cell (p := ⟨b, o + at_ * 4 + 3, none⟩) hbl1).trans f3
      have HPR : Hid (r < p ∧ p < w2.heap.size ∧ w.heap.size = r) := ⟨by rw [hr, hp, HS1.out]; omega, by rw [hp, HS2.out]; omega, hr.symm⟩
      have HBw2 : Hid (Below w.heap.size w w2) := HB1.out.trans (HB2.out.mono HB1.out.size)
      rw [← hp, ← hr]
      clear hr hw2 hp f0 f1 f2 f3 g0 g1 g2 hbl1
      obtain ⟨N, hN⟩ : ∃ N, N = (l[at_]'hlt).c := ⟨_, rfl⟩
      rw [← hN] at g3
      clear hN
      go_wp2_with fail
      clear g3 hge
      obtain ⟨K, hK⟩ : ∃ K, K = (l[at_]'hlt).k := ⟨_, rfl⟩
      obtain ⟨S, hS⟩ : ∃ S, S = (l[at_]'hlt).s := ⟨_, rfl⟩
      obtain ⟨I, hI⟩ : ∃ I, I = (l[at_]'hlt).n := ⟨_, rfl⟩
      have HI64 : Hid (Pl.In64 I) := by rw [hI]; exact HII.out _ (List.getElem_mem hlt)
      have HWT : Hid (ndW (l.drop at_) = S.size + 25 + ndW (l.drop (at_ + 1))) := by show _ = _; rw [hS]; exact ndW_drop l at_ hlt
      rw [← hK, ← hS, ← hI] at HP2
      rw [← hK, ← hS, ← hI]
      clear hK hS hI
      obtain ⟨lo, hlo⟩ : ∃ lo, lo = w2.heap.size := ⟨_, rfl⟩
      have HLO := Pl.hid hlo
      clear hlo
      go_loopw [1, 10] (fun av kv wr => ∃ (i k : Nat) (ts : List RT) (lv : Value), av = .int .i64 i ∧ kv = .int .i64 k ∧ i ≤ l.length ∧ at_ + 1 ≤ i ∧ k ≤ i ∧
          Hid (wr.heap[p]? = some (.cells #[.int .i64 K, .string S, .int .i64 I, lv] 31 (0, 0))) ∧ Hid (wr.heap[r]? = some (.cells #[.int .i64 0, .string ⟨#[]⟩, .int .i64 0, .slice none 0 0] 31 (0, 0))) ∧
          Hid (Mm.OwnL wr lo lv ts) ∧ Hid (RT.szL ts + S.size + 25 + ndW (l.drop i) ≤ ndW (l.drop at_)) ∧ Hid (Below w.heap.size w wr ∧ lo ≤ wr.heap.size) ∧ Hid (∀ t ∈ ts, t.In)) (fun av _ _ => l.length - (intOf av).toNat)
      case atStart =>
        refine ⟨at_ + 1, 0, [], .slice none 0 0, by go_num, rfl, by omega, Nat.le_refl _, by omega, HP2, HR2, Mm.OwnL.nil _ _, ?_, ⟨HBw2.out, by rw [HLO.out]; exact Nat.le_refl _⟩, fun t ht => by cases ht⟩
        show _ ≤ _
        rw [HWT.out]
        simp [RT.szL]
      case round =>
        obtain ⟨i, k, ts, lv, rfl, rfl, hi, hai, hki, HP, HR, HO, HW, HBr, HIT⟩ := hrel
        have hdp : 0 ≤ dp ∧ dp ≤ 12 := by have := HDP.out; omega
        have e0 := Mm.cell_of HP.out (i := 0) rfl
        have e1 := Mm.cell_of HP.out (i := 1) rfl
        have e2 := Mm.cell_of HP.out (i := 2) rfl
        have e3 := Mm.cell_of HP.out (i := 3) rfl
        have HPLT : Hid (p < wr.heap.size ∧ r < wr.heap.size) := ⟨(Array.getElem?_eq_some_iff.1 HP.out).1, (Array.getElem?_eq_some_iff.1 HR.out).1⟩
        by_cases hcond : (k : Int) < N ∧ i < l.length ∧ dp < 12
        · obtain ⟨hk, hil, hdl⟩ := hcond
          clear e0 e1 e2 e3
          go_wp2_with fail
          generalize hw3 : World.alloc wr _ = w3
          obtain ⟨q, hq⟩ : ∃ q, q = wr.heap.size := ⟨_, rfl⟩
          rw [← hq]
          have HQ3 : Hid (w3.heap[q]? = some (.cells #[.int .i64 0, .string ⟨#[]⟩, .int .i64 0, .slice none 0 0] 31 (0, 0))) := by show _ = _; rw [← hw3, hq]; exact heap_alloc_new wr _
          have HB3 : Hid (Below wr.heap.size wr w3) := by rw [← hw3]; exact (Below.refl _ _).alloc (Nat.le_refl _) _
          have HS3 : Hid (w3.heap.size = wr.heap.size + 1) := by show _ = _; rw [← hw3]; simp
          have HQ : Hid (q = wr.heap.size) := hq
          clear hw3 hq
          refine (IH.out (g - 1) (by have := HDP.out; omega) (dp + 1) (by omega) (by have := HDP.out; omega) i w3 (by omega) (HB.out.trans ((HBr.out.1.trans (HB3.out.mono HBr.out.1.size)).mono HB.out.size))).mono ?_
          rintro e w4 ⟨t, c0, c1, c2, c3, j, rfl, hown, hb4, hij, hj, hwt, hsz, hin4⟩
          have HIN4 := Pl.hid hin4
          clear hin4
          have HT4 := Pl.hid hown
          have HB4 := Pl.hid hb4
          have HWT4 := Pl.hid (hwt hil)
          have hij' := (hwt hil).1
          clear hown hb4 hwt hsz
          have HQ4 : Hid (w4.heap[q]? = some (.cells #[.int .i64 0, .string ⟨#[]⟩, .int .i64 0, .slice none 0 0] 31 (0, 0))) := (HB4.out.block q (by rw [HS3.out, HQ.out]; exact Nat.lt_succ_self _)).trans HQ3.out
          have HP4 : Hid (w4.heap[p]? = some (.cells #[.int .i64 K, .string S, .int .i64 I, lv] 31 (0, 0))) :=
            ((HB4.out.block p (by rw [HS3.out]; have := HPLT.out.1; omega)).trans (HB3.out.block p HPLT.out.1)).trans HP.out
          have HR4 : Hid (w4.heap[r]? = some (.cells #[.int .i64 0, .string ⟨#[]⟩, .int .i64 0, .slice none 0 0] 31 (0, 0))) :=
            ((HB4.out.block r (by rw [HS3.out]; have := HPLT.out.2; omega)).trans (HB3.out.block r HPLT.out.2)).trans HR.out
          have HSZ : Hid (p < q ∧ r < q ∧ q + 1 = w3.heap.size ∧ w3.heap.size ≤ w4.heap.size ∧ q < w4.heap.size) := by
            have h1 := HPLT.out; have h2 := HQ.out; have h3 := HS3.out; have h4 := HB4.out.size
            exact ⟨by omega, by omega, by omega, h4, by omega⟩
          have HST5 : Hid (∀ w5 : World, w5.heap[q]? = some (.cells #[c0, c1, c2, c3] 31 (0, 0)) → w4.grownBy w5 (some q) → w5.heap[p]? = some (.cells #[.int .i64 K, .string S, .int .i64 I, lv] 31 (0, 0)) ∧
              w5.cell? ⟨p, 3, none⟩ = some lv ∧ w5.cell? ⟨q, 0, none⟩ = some c0 ∧ w5.cell? ⟨q, 1, none⟩ = some c1 ∧ w5.cell? ⟨q, 2, none⟩ = some c2 ∧ w5.cell? ⟨q, 3, none⟩ = some c3 ∧
              Hid (Mm.OwnT w5 wr.heap.size t [c0, c1, c2, c3]) ∧ Hid (Below wr.heap.size wr w5) ∧ Hid (w5.heap[r]? = some (.cells #[.int .i64 0, .string ⟨#[]⟩, .int .i64 0, .slice none 0 0] 31 (0, 0)))) := fun w5 hw5 hg5 => by
            have hz := HSZ.out
            have hq := HQ.out
            have hp5 := (hg5.block p (by omega) (by intro e; cases e; omega)).trans HP4.out
            exact ⟨hp5, Mm.cell_of hp5 (i := 3) rfl, Mm.cell_of hw5 (i := 0) rfl, Mm.cell_of hw5 (i := 1) rfl, Mm.cell_of hw5 (i := 2) rfl, Mm.cell_of hw5 (i := 3) rfl,
              ((HT4.out.keepLo (fun g hg hgl => hg5.block g hgl (by intro e; cases e; omega))).lo (by omega)),
              ((HB3.out.trans (HB4.out.mono (by omega))).grown hg5 (by omega) (fun k hk => by cases hk; omega)),
              (hg5.block r (by omega) (by intro e; cases e; omega)).trans HR4.out⟩
          have HPLO : Hid (p < lo ∧ r < lo ∧ lo ≤ wr.heap.size ∧ ts.length < 1073741824 ∧ w.heap.size = r ∧ w.heap.size < lo) := by
            have h1 := HPR.out; have h2 := HLO.out; have h3 := HBr.out.2; have h4 := HW.out; have h5 := RT.szL_len ts; have h6 := ndW_le l at_
            exact ⟨by omega, by omega, by omega, by omega, by omega, by omega⟩
          have HST6 : Hid (∀ (w5 w6 : World), w5.heap[p]? = some (.cells #[.int .i64 K, .string S, .int .i64 I, lv] 31 (0, 0)) → Below lo w5 w6 → w6.heap[p]? = some (.cells #[.int .i64 K, .string S, .int .i64 I, lv] 31 (0, 0))) := fun w5 w6 h5 hb =>
            (hb.block p HPLO.out.1).trans h5
          go_wp2_with (first
            | (refine Mm.wp_store4 _ rfl _ _ rfl q _ _ _ _ _ _ HQ4.out rfl rfl rfl HT4.out.one ?_; intro w5 hw5 hs5 hg5; obtain ⟨hp5, p3, q0, q1, q2, q3, HT5, HB5, HR5⟩ := HST5.out w5 hw5 hg5; clear hw5 hs5 hg5)
            | (at_builtin; refine Mm.wp_appR _ rfl _ _ (by rfl) wr w5 lo lv ts (by rfl) HO.out t [c0, c1, c2, c3] HT5.out (by rfl) (by rfl) HB5.out HPLO.out.2.2.2.1 HPLO.out.2.2.1 ?_; intro v6 w6 ho6 hb6; have HO6 := Pl.hid ho6; have HB6 := Pl.hid hb6; clear ho6 hb6; have hp6 := HST6.out w5 w6 hp5 HB6.out)
            | (refine Mm.wp_storeF _ rfl 29 _ _ (by rfl) Mm.Tryd.info_rl p 3 31 #[.int .i64 K, .string S, .int .i64 I, lv] v6 hp6 (by rfl) (by rfl) (Nat.lt_succ_self 3) HO6.out.one.2 HO6.out.one.1 ?_; intro w7 hw7 hs7 hg7; have HW7 := Pl.hid hw7; have HG7 := Pl.hid hg7; clear hw7 hs7 hg7))
          have hz := HSZ.out
          have hlo := HPLO.out
          have hw7 := HW7.out
          have hle := HWT4.out.2
          have hwq := HW.out
          have h5z := HB5.out.size
          have h6z := HB6.out.size
          have hpr := HPR.out
          refine ⟨⟨j, k + 1, ts ++ [t], v6, rfl, by go_num, hj, by omega, by omega, hw7, ?_, ?_, ?_, ?_, ?_⟩, by simp [intOf]; omega⟩
          · show _ = _
            rw [HG7.out.block r (by omega) (by intro e; cases e; omega), HB6.out.block r (by omega)]
            exact HR5.out
          · exact HO6.out.keepLo fun g hg hgl => HG7.out.block g hgl (by intro e; cases e; omega)
          · show _ ≤ _
            rw [RT.szL_snoc]
            omega
          · refine ⟨(HBr.out.1.trans (((HB5.out.mono (by omega)).trans (HB6.out.mono (by omega))))).grown HG7.out (by have := HBr.out.1.size; omega) (fun k hk => by cases hk; omega), ?_⟩
            have := HG7.out.size
            omega
          · intro t' ht'
            rcases List.mem_append.1 ht' with h | h
            · exact HIT.out t' h
            · rw [List.mem_singleton.1 h]; exact HIN4.out
        · have fin : ¬ (k : Int) < N ∨ ¬ i < l.length ∨ ¬ dp < 12 := by
            by_cases h : (k : Int) < N
            · by_cases h' : i < l.length
              · exact .inr (.inr fun h'' => hcond ⟨h, h', h''⟩)
              · exact .inr (.inl h')
            · exact .inl h
          clear hcond
          have key : ∀ wf : World, wf.heap[r]? = some (.cells #[.int .i64 K, .string S, .int .i64 I, lv] 31 (0, 0)) → wr.grownBy wf (some r) →
              Mm.OwnT wf w.heap.size (.mk K S I ts) [.int .i64 K, .string S, .int .i64 I, lv] ∧ Below w.heap.size w wf ∧ at_ ≤ i ∧ i ≤ l.length ∧ (at_ < l.length → at_ < i ∧ (RT.mk K S I ts).sz + ndW (l.drop i) ≤ ndW (l.drop at_)) ∧ (RT.mk K S I ts).sz ≤ ndW l + 25 ∧ (RT.mk K S I ts).In := by
            intro wf hwf hgf
            have hw := HW.out
            have hle := ndW_le l at_
            have hlo := HLO.out
            have hpr := HPR.out
            refine ⟨?_, HBr.out.1.grown hgf (by have := HBr.out.1.size; omega) (fun k hk => by cases hk; omega), by omega, hi, fun _ => ⟨by omega, ?_⟩, ?_, .mk _ _ _ _ HI64.out HIT.out⟩
            · refine (((HO.out.rep K S I).keepLo (fun g hg hgl => hgf.block g hgl ?_)).lo (by omega))
              intro e
              cases e
              omega
            · rw [RT.sz_mk]; omega
            · rw [RT.sz_mk]; omega
          have KEY := Pl.hid key
          clear key
          rcases fin with hk | hil | hdl <;>
          · go_wp2_with (refine Mm.wp_store4 _ rfl _ _ rfl r _ _ _ _ _ _ HR.out rfl rfl rfl (by intro u hu; simp only [List.mem_cons, List.mem_nil_iff, or_false] at hu; rcases hu with rfl | rfl | rfl | rfl <;> first | rfl | exact HO.out.one.1) ?_; intro wf hwf hsf hgf)
            all_goals
              have HF := Pl.hid (KEY.out wf hwf hgf)
              have HWF := Pl.hid hwf
              clear hwf hsf hgf
              (try simp only [Exit.inBlock, Exit.then])
              refine bodyPost_ret (Mm.res_cell_tmp rfl _ wf r _ _ _ _ _ _ rfl HWF.out) rfl ?_
              first
              | exact ⟨.mk K S I ts, _, _, _, _, i, rfl, HF.out⟩
              | exact ⟨.mk K S I ts, _, _, _, _, i, rfl, HF.out.1, HF.out.2.1, HF.out.2.2.1, HF.out.2.2.2.1, HF.out.2.2.2.2.1 hlt, HF.out.2.2.2.2.2.1, HF.out.2.2.2.2.2.2⟩
    · have hlt : ¬ at_ < l.length := by omega
      go_wp2_with (refine Mm.wp_store4 _ rfl _ _ rfl w.heap.size _ _ _ _ _ _ (heap_alloc_new w _) rfl rfl rfl (by intro u hu; simp only [List.mem_cons, List.mem_nil_iff, or_false] at hu; rcases hu with rfl | rfl | rfl | rfl <;> rfl) ?_; intro wf hwf hsf hgf)
      have HWF := Pl.hid hwf
      have HG := Pl.hid hgf
      clear hwf hsf hgf
      (try simp only [Exit.inBlock, Exit.then])
      refine bodyPost_ret (Mm.res_cell_tmp rfl _ wf w.heap.size _ _ _ _ _ _ rfl HWF.out) rfl ?_
      refine ⟨.mk 5 ⟨#[]⟩ 0 [], _, _, _, _, at_, rfl, (Mm.OwnL.nil wf w.heap.size).rep 5 ⟨#[]⟩ 0, ?_, Nat.le_refl _, hat, fun h => absurd h hlt, ?_, .mk _ _ _ _ (by unfold Pl.In64; omega) (fun t ht => by cases ht)⟩
      · exact ((Below.refl _ _).alloc (Nat.le_refl _) _).grown HG.out (by simp) (fun k hk => by cases hk; exact Nat.le_refl _)
      · rw [RT.sz_mk]
        have e0 : (⟨#[]⟩ : ByteArray).size = 0 := rfl
        have e1 : RT.szL [] = 0 := by simp [RT.szL]
        omega
end Go.Proofs.YtakldjdohgmeiaaDoor
