/- A command's text, fed to a parser on which nothing is under way, is that command, and nothing else: plain Lean. Conditions stand in each law. -/
import Derived.Test.YtakldjdohgmeiaaDoorQuoA
import Derived.Test.YtakldjdohgmeiaaDoorBulA
namespace Go.Proofs.YtakldjdohgmeiaaDoor
open Go.RowKit
set_option maxRecDepth 20000

namespace Pl
theorem dec_digit {k : Nat} {c : UInt8} (h : c ∈ Lib.decDigits k) : 48 ≤ c.toNat ∧ c.toNat ≤ 57 := (num_dec k).2.1 c h
theorem dec_ne (k : Nat) : Lib.decDigits k ≠ [] := (plainW_allD (dec_plain k)).2
theorem dec_pos (k : Nat) : 0 < (Lib.decDigits k).length := by
  cases h : Lib.decDigits k with
  | nil => exact absurd h (dec_ne k)
  | cons _ _ => simp
theorem bulkE_pos (s : List UInt8) : 5 ≤ (bulkE s).length := by
  unfold bulkE crlf
  simp only [List.length_append, List.length_cons, List.length_nil]
  omega
theorem rI_dec (k : Nat) (h : k ≤ 9999999) : rIv (Lib.decDigits k) = (k : Int) ∧ rIc (Lib.decDigits k) = 0 := by
  have := rI_itoa (n := (k : Int)) (by unfold In64; omega)
  rw [itoa_pos (by omega)] at this
  have e : Lib.decDigits ((k : Int)).toNat = Lib.decDigits k := rfl
  rw [e] at this
  unfold rIv rIc
  rw [this]
  exact ⟨rfl, rfl⟩
theorem head_num (c : UInt8) (k : Nat) (rest : List UInt8) (lo hi : Int) (hc : c ≠ 10) (hk : k ≤ 9999999) (hlo : lo ≤ (k : Int)) (hhi : (k : Int) ≤ hi) :
    numM (c :: (Lib.decDigits k ++ 13 :: 10 :: rest)) lo hi = (some ((k : Int), (Lib.decDigits k).length + 3), false) := by
  have hd := dec_len k (by omega)
  have hp := dec_pos k
  obtain ⟨hv, hcode⟩ := rI_dec k hk
  have hline : lineM (c :: (Lib.decDigits k ++ 13 :: 10 :: rest)) 32 = some (c :: (Lib.decDigits k ++ [13])) := by
    have := lineM_at (c :: (Lib.decDigits k ++ [13])) rest 32 (fun d hd => by
      rcases List.mem_cons.1 hd with rfl | hd
      · exact hc
      · rcases List.mem_append.1 hd with hd | hd
        · intro e
          have := dec_digit hd
          rw [e] at this
          exact absurd this (by decide)
        · obtain rfl : d = 13 := by simpa using hd
          decide) (by simp; omega)
    simpa using this
  have ht : (c :: (Lib.decDigits k ++ [13])).dropLast.tail = Lib.decDigits k := by
    rw [show c :: (Lib.decDigits k ++ [13]) = (c :: Lib.decDigits k) ++ [13] by simp, List.dropLast_concat]
    rfl
  have hcr : crB (c :: (Lib.decDigits k ++ [13])) = true := by
    unfold crB
    rw [show c :: (Lib.decDigits k ++ [13]) = (c :: Lib.decDigits k) ++ [13] by simp, List.getLast?_concat]
    rfl
  have hok : numOk (c :: (Lib.decDigits k ++ [13])) lo hi = true := by
    unfold numOk
    rw [ht, hcr, hcode, hv]
    simp
    omega
  rw [numM_some hline, hok, if_pos rfl, ht, hv]
  simp
theorem part_len (st : Pst) (s rest : List UInt8) (hn : st.need = -1) (hl : 0 < st.left) (hs : s.length ≤ 1048576) (hz : st.size + s.length ≤ 4194304) :
    partM st (bulkE s ++ rest) = ((Lib.decDigits s.length).length + 3, { st with size := st.size + s.length, need := (s.length : Int), used := st.used + ((Lib.decDigits s.length).length + 3) }) ∧
    (bulkE s ++ rest).drop ((Lib.decDigits s.length).length + 3) = s ++ 13 :: 10 :: rest := by
  have e : bulkE s ++ rest = 36 :: (Lib.decDigits s.length ++ 13 :: 10 :: (s ++ 13 :: 10 :: rest)) := by simp [bulkE, crlf]
  rw [e]
  constructor
  · unfold partM
    rw [if_neg (by simp), if_neg (by omega), if_pos hl]
    unfold lengthM
    rw [if_neg (by simp), head_num 36 s.length _ 0 1048576 (by decide) (by omega) (by omega) (by omega)]
    simp only
    rw [show ((s.length : Nat) : Int).toNat = s.length from rfl, if_neg (by omega)]
  · rw [show 36 :: (Lib.decDigits s.length ++ 13 :: 10 :: (s ++ 13 :: 10 :: rest)) = (36 :: (Lib.decDigits s.length ++ [13, 10])) ++ (s ++ 13 :: 10 :: rest) by simp]
    exact List.drop_left' (by simp)
theorem part_word (st : Pst) (s rest : List UInt8) (hn : st.need = (s.length : Int)) :
    partM st (s ++ 13 :: 10 :: rest) = (s.length + 2, if st.left = 1 then { st with used := 0, words := [], left := 0, need := -1, ready := st.ready ++ [st.words ++ [s]] } else { st with words := st.words ++ [s], need := -1, left := st.left - 1, used := st.used + (s.length + 2) }) ∧
    (s ++ 13 :: 10 :: rest).drop (s.length + 2) = rest := by
  constructor
  · unfold partM
    rw [if_neg (by simp), if_pos (by omega)]
    unfold wordM
    have ht : st.need.toNat = s.length := by rw [hn]; rfl
    rw [ht, if_neg, if_neg (by simp)]
    · rw [show (s ++ 13 :: 10 :: rest).take s.length = s from List.take_left]
    · rintro (⟨_, h⟩ | ⟨_, h⟩)
      · exact h (by simp)
      · exact h (by rw [List.getElem?_append_right (by omega)]; simp)
  · rw [show s ++ 13 :: 10 :: rest = (s ++ [13, 10]) ++ rest by simp]
    exact List.drop_left' (by simp)
def sumL (ws : List (List UInt8)) : Nat := (ws.map List.length).sum
theorem feed_bulks : ∀ (ws : List (List UInt8)) (st : Pst) (f : Nat) (rest : List UInt8), ws ≠ [] → st.left = ws.length → st.need = -1 → st.err = false → st.size + sumL ws ≤ 4194304 → (∀ s ∈ ws, s.length ≤ 1048576) →
    feedM (f + 2 * ws.length) st (ws.flatMap bulkE ++ rest) = feedM f { st with used := 0, words := [], left := 0, size := st.size + sumL ws, ready := st.ready ++ [st.words ++ ws] } rest
  | [], _, _, _, h, _, _, _, _, _ => absurd rfl h
  | s :: ws, st, f, rest, _, hl, hn, he, hz, hs => by
    have hs1 := hs s (by simp)
    have hz1 : st.size + s.length + sumL ws ≤ 4194304 := by simp [sumL] at hz ⊢; omega
    rw [show f + 2 * (s :: ws).length = ((f + 2 * ws.length) + 1) + 1 by simp; omega, List.flatMap_cons, List.append_assoc]
    obtain ⟨p1, d1⟩ := part_len st s (ws.flatMap bulkE ++ rest) hn (by rw [hl]; simp) hs1 (by omega)
    rw [feedM_go he (by rw [p1]; simp), p1, d1]
    simp only
    obtain ⟨p2, d2⟩ := part_word { st with size := st.size + s.length, need := (s.length : Int), used := st.used + ((Lib.decDigits s.length).length + 3) } s (ws.flatMap bulkE ++ rest) rfl
    rw [feedM_go (by exact he) (by rw [p2]; simp), p2, d2]
    simp only
    cases ws with
    | nil =>
      rw [if_pos (by rw [hl]; rfl)]
      simp only [List.flatMap_nil, List.nil_append, List.length_nil, Nat.mul_zero, Nat.add_zero]
      rw [show st.size + sumL [s] = st.size + s.length by simp [sumL], hn]
    | cons s2 ws =>
      rw [if_neg (by rw [hl]; simp)]
      rw [feed_bulks (s2 :: ws) _ f rest (by simp) (by show st.left - 1 = _; rw [hl]; simp) rfl (by exact he) (by show st.size + s.length + _ ≤ _; exact hz1) (fun x hx => hs x (by simp [hx]))]
      congr 1
      simp only [Pst.mk.injEq, true_and, and_true]
      refine ⟨?_, hn.symm, ?_⟩
      · simp [sumL]; omega
      · simp
/-- nothing is under way -/
def idle (st : Pst) : Prop := st.used = 0 ∧ st.words = [] ∧ st.left = 0 ∧ st.need = -1 ∧ st.err = false
theorem sumL_flat : ∀ ws : List (List UInt8), 2 * ws.length ≤ (ws.flatMap bulkE).length
  | [] => by simp
  | s :: ws => by
    have h1 := sumL_flat ws
    have h2 := bulkE_pos s
    rw [List.flatMap_cons, List.length_append, List.length_cons]
    omega
/-- a command's text is the command, ready -/
theorem feed_req (st : Pst) (ws : List (List UInt8)) (h : idle st) (h0 : 0 < ws.length) (h1 : ws.length ≤ 1024) (hz : sumL ws ≤ 4194304) (hs : ∀ s ∈ ws, s.length ≤ 1048576) :
    feedA st [] (reqE ws) = (⟨0, [], 0, sumL ws, -1, st.ready ++ [ws], false⟩, []) := by
  obtain ⟨i1, i2, i3, i4, i5⟩ := h
  have hfl := sumL_flat ws
  have e : reqE ws = 42 :: (Lib.decDigits ws.length ++ 13 :: 10 :: ws.flatMap bulkE) := by simp [reqE, crlf]
  refine feedA_ok (T := reqE ws) rfl ?_ rfl
  obtain ⟨f, hf⟩ : ∃ f, (reqE ws).length + 1 = (f + 1 + 2 * ws.length) + 1 := ⟨(reqE ws).length - 1 - 2 * ws.length, by rw [e]; simp only [List.length_cons, List.length_append]; omega⟩
  rw [hf]
  have hp : partM st (reqE ws) = ((Lib.decDigits ws.length).length + 3, { st with left := ws.length, size := 0, words := [], used := (Lib.decDigits ws.length).length + 3 }) := by
    rw [e]
    unfold partM
    rw [if_neg (by simp), if_neg (by omega), if_neg (by omega), if_pos (by rfl)]
    unfold countM
    rw [head_num 42 ws.length _ (-1) 1024 (by decide) (by omega) (by omega) (by omega)]
    simp only
    rw [if_pos (by omega)]
    rfl
  have hd : (reqE ws).drop ((Lib.decDigits ws.length).length + 3) = ws.flatMap bulkE ++ [] := by
    rw [e, List.append_nil, show 42 :: (Lib.decDigits ws.length ++ 13 :: 10 :: ws.flatMap bulkE) = (42 :: (Lib.decDigits ws.length ++ [13, 10])) ++ ws.flatMap bulkE by simp]
    exact List.drop_left' (by simp)
  rw [feedM_go i5 (by rw [hp]; simp), hp, hd]
  simp only
  rw [feed_bulks ws { st with left := ws.length, size := 0, words := [], used := (Lib.decDigits ws.length).length + 3 } (f + 1) [] (fun e => by rw [e] at h0; simp at h0) rfl i4 (by exact i5) (by show 0 + sumL ws ≤ _; omega) hs]
  rw [feedM_stop (by exact i5) (by rfl)]
  show (({ st with used := 0, words := [], left := 0, size := 0 + sumL ws, ready := st.ready ++ [[] ++ ws] } : Pst), []) = _
  rw [Nat.zero_add, List.nil_append]
  cases st
  simp at i4 i5
  simp [i4, i5]
/-- what is ready stays ready -/
theorem part_more (st : Pst) (l : List UInt8) : ∃ ex, (partM st l).2.ready = st.ready ++ ex := by
  unfold partM
  split
  · exact ⟨[], by simp⟩
  · split
    · unfold wordM
      split
      · exact ⟨[], by simp⟩
      · split
        · exact ⟨[], by simp⟩
        · simp only
          split
          · exact ⟨_, rfl⟩
          · exact ⟨[], by simp⟩
    · split
      · unfold lengthM
        split
        · exact ⟨[], by simp⟩
        · split
          · exact ⟨[], by simp⟩
          · split
            · exact ⟨[], by simp⟩
            · exact ⟨[], by simp⟩
      · split
        · unfold countM
          split
          · exact ⟨[], by simp⟩
          · simp only
            split
            · exact ⟨[], by simp⟩
            · exact ⟨[], by simp⟩
        · unfold inlineM
          split
          · exact ⟨[], by simp⟩
          · split
            · simp only
              split
              · exact ⟨[], by simp⟩
              · exact ⟨_, rfl⟩
            · exact ⟨[], by simp⟩
theorem feedM_more : ∀ (f : Nat) (st : Pst) (l : List UInt8), ∃ ex, (feedM f st l).1.ready = st.ready ++ ex
  | 0, st, l => ⟨[], by simp [feedM]⟩
  | f + 1, st, l => by
    unfold feedM
    split
    · exact ⟨[], by simp⟩
    · obtain ⟨e1, h1⟩ := part_more st l
      split
      · exact ⟨e1, h1⟩
      · obtain ⟨e2, h2⟩ := feedM_more f (partM st l).2 (l.drop (partM st l).1)
        exact ⟨e1 ++ e2, by rw [h2, h1, List.append_assoc]⟩
theorem feedA_more (st : Pst) (buf b : List UInt8) : ∃ ex, (feedA st buf b).1.ready = st.ready ++ ex := by
  obtain ⟨ex, h⟩ := feedM_more ((buf ++ b).length + 1) st (buf ++ b)
  unfold feedA
  split
  · exact ⟨ex, h⟩
  · exact ⟨ex, h⟩
end Pl
end Go.Proofs.YtakldjdohgmeiaaDoor
