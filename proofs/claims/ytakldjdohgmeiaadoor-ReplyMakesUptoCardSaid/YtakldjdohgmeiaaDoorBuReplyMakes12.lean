/- What is read from the left of bytes: a right reply that is broken off is too short; what pantrylaw16's plain makes of a reply; plain Lean. Conditions stand in each law. Plain: what reply.Error makes of a text: each CR and LF becomes a blank. No program in sight. pantrylaw16's same and spoil. Conditions stand in each law. bytes.IndexAny(b, "\r\n") at every row of bytes: the set of ASCII. Conditions stand in each law. unicode/utf8.DecodeRune laid at the program; the library's two tables. Conditions stand in each law. bytes.IndexAny(b, "\r\n") at every row of bytes. Conditions stand in each law. Conditions stand in each law. -/
import Derived.Test.YtakldjdohgmeiaaDoorBuReplyMakes11
import Derived.Lib.Replace
import Derived.Test.YtakldjdohgmeiaaDoorBuReplyMakes3
import Derived.BigQuiet
import Derived.Test.YtakldjdohgmeiaaDoorBuReplyMakes10
import Derived.Shelf.Strings.AsciiSet
import Derived.Shelf.Spec.DecodeRune
import Derived.Lib.LaidU8T
import Derived.Test.YtakldjdohgmeiaaDoorBuReplyMakes5
import Derived.Test.YtakldjdohgmeiaaDoorBuReplyMakes7
import Derived.Lib.IndexEntry
import Derived.Lib.DecodeN
namespace Go.Proofs.YtakldjdohgmeiaaDoor
open Go.RowKit
set_option maxRecDepth 20000

namespace RT
open Pl
/-- a line's head that is broken off -/
theorem hd_cut1 {f : UInt8} {s p q : List UInt8} (hf : kd f ≠ 0) (hs : noEnd s = true) (h : f :: (s ++ [13, 10]) = p ++ q) (hq : q ≠ []) : hdR p = .bad 5 := by
  cases p with
  | nil => rfl
  | cons c p =>
    simp only [List.cons_append, List.cons.injEq] at h
    obtain ⟨rfl, h⟩ := h
    have e := line_short hs h hq
    rw [hdR, if_neg hf, if_pos (by rw [e]; decide), e]
theorem hd_cut {k : Int} {s : ByteArray} {n : Int} {ln : Nat} (h : okHead k s n ln = true) (hs : s.size ≤ 16777216) {p q : List UInt8} (he : encH k s n ln = p ++ q) (hq : q ≠ []) : hdR p = .bad 5 := by
  rcases okHead_cases h with ⟨rfl, h1, rfl, h2⟩ | ⟨rfl, h1, rfl, h2⟩ | ⟨rfl, rfl, h2⟩ | ⟨rfl, rfl, h2⟩ | ⟨rfl, rfl, rfl, h2⟩ | ⟨rfl, rfl, rfl, h2⟩ | ⟨rfl, rfl, rfl⟩
  · refine hd_cut1 (f := 43) (s := L s) (by decide) h1 ?_ hq
    rw [← he]
    simp [encH, crlf]
  · refine hd_cut1 (f := 45) (s := L s) (by decide) h1 ?_ hq
    rw [← he]
    simp [encH, crlf]
  · refine hd_cut1 (f := 58) (s := Lib.itoa n) (by decide) (noEnd_digits fun c hc => itoa_ge hc) ?_ hq
    rw [← he]
    simp [encH, crlf]
  · have hsz : (L s).length ≤ 16777216 := by rw [L_length]; exact hs
    have he' : 36 :: ((Lib.decDigits (L s).length ++ [13, 10]) ++ (L s ++ [13, 10])) = p ++ q := by
      rw [← he]
      simp [encH, bulkE, crlf]
    have hd := noEnd_digits (l := Lib.decDigits (L s).length) fun c hc => dec_ge hc
    cases p with
    | nil => rfl
    | cons c p =>
      simp only [List.cons_append, List.cons.injEq] at he'
      obtain ⟨rfl, he'⟩ := he'
      have key : ∀ a : List UInt8, p ++ a = Lib.decDigits (L s).length ++ [13, 10] → a ≠ [] → hdR (36 :: p) = .bad 5 := by
        intro a ha hne
        exact hd_cut1 (f := 36) (p := 36 :: p) (by decide) hd (by rw [List.cons_append, ha]) hne
      rcases List.append_eq_append_iff.1 he' with ⟨a, h1, h3⟩ | ⟨a, h1, h3⟩
      · have e := line_ok (Lib.decDigits (L s).length) a hd
        obtain ⟨v, c⟩ := rI_dec' (L s).length (by omega)
        have e' : lineR p = (0, Lib.decDigits (L s).length, a) := by
          rw [h1, ← e]
          simp
        have hlen : a.length < (L s).length + 2 := by
          have := congrArg List.length h3
          have h0 : 0 < q.length := List.length_pos_iff.2 hq
          simp only [List.length_append, List.length_cons, List.length_nil] at this
          omega
        have ek : kd 36 = 4 := by decide
        have n1 : ¬ (((L s).length : Nat) : Int) = -1 := by omega
        have n2 : ¬ (16777216 : Int) < (((L s).length : Nat) : Int) := by omega
        have n3 : ¬ (((L s).length : Nat) : Int) < -1 := by omega
        have eb : bulkR (L s).length a = (5, [], []) := by unfold bulkR; rw [if_pos hlen]
        simp only [hdR, ek, e', v, c, numR, n1, n2, n3, Int.toNat_natCast, eb]
        simp
      · by_cases ha : a = []
        · subst ha
          rw [List.append_nil] at h1
          have e := line_ok (Lib.decDigits (L s).length) [] hd
          obtain ⟨v, c⟩ := rI_dec' (L s).length (by omega)
          have e' : lineR p = (0, Lib.decDigits (L s).length, []) := by rw [← h1, ← e]
          have ek : kd 36 = 4 := by decide
          have n1 : ¬ (((L s).length : Nat) : Int) = -1 := by omega
          have n2 : ¬ (16777216 : Int) < (((L s).length : Nat) : Int) := by omega
          have n3 : ¬ (((L s).length : Nat) : Int) < -1 := by omega
          have eb : bulkR (L s).length [] = (5, [], []) := by unfold bulkR; rw [if_pos (by simp)]
          simp only [hdR, ek, e', v, c, numR, n1, n2, n3, Int.toNat_natCast, eb]
          simp
        · exact key a h1.symm ha
  · refine hd_cut1 (f := 36) (s := [45, 49]) (by decide) (by decide) ?_ hq
    rw [← he]
    simp [encH]
  · refine hd_cut1 (f := 42) (s := [45, 49]) (by decide) (by decide) ?_ hq
    rw [← he]
    simp [encH]
  · refine hd_cut1 (f := 42) (s := Lib.decDigits ln) (by decide) (noEnd_digits fun c hc => dec_ge hc) ?_ hq
    rw [← he]
    simp [encH, crlf]
theorem decN_cut {f : List UInt8 → Int × RT × List UInt8} : ∀ (l : List RT) (ts : List RT) (p q : List UInt8), (∀ t ∈ l, ∀ r', f (t.enc ++ r') = (0, t, r')) → (∀ t ∈ l, ∀ p' q', t.enc = p' ++ q' → q' ≠ [] → (f p').1 = 5) → encL l = p ++ q → q ≠ [] → (decN f l.length ts p).1 = 5
  | [], ts, p, q, _, _, h, hq => by
    simp only [encL] at h
    exact absurd (List.append_eq_nil_iff.1 h.symm).2 hq
  | t :: l, ts, p, q, h1, h2, h, hq => by
    simp only [encL] at h
    simp only [List.length_cons, decN]
    have ih := fun ts' p' (e : encL l = p' ++ q) => decN_cut l ts' p' q (fun t' ht' => h1 t' (by simp [ht'])) (fun t' ht' => h2 t' (by simp [ht'])) e hq
    rcases List.append_eq_append_iff.1 h with ⟨a, e1, e2⟩ | ⟨a, e1, e2⟩
    · have := h1 t (by simp) a
      rw [e1, this, if_pos rfl]
      exact ih _ _ e2
    · by_cases ha : a = []
      · subst ha
        rw [List.append_nil] at e1
        have := h1 t (by simp) []
        rw [List.append_nil] at this
        rw [← e1, this, if_pos rfl]
        exact ih _ _ (by rw [List.nil_append] at e2 ⊢; exact e2.symm)
      · have := h2 t (by simp) p a e1 ha
        rw [if_neg (by rw [this]; decide), this]
/-- broken off anywhere it is too short -/
theorem dec_cut : ∀ (d : Nat) (t : RT), t.ok = true → t.In → t.depth ≤ d → t.enc.length ≤ 16777216 → ∀ p q, t.enc = p ++ q → q ≠ [] → (decR d p).1 = 5 := by
  intro d
  induction d with
  | zero =>
    intro t hok hin hd hl p q he hq
    obtain ⟨k, s, n, l⟩ := t
    rw [ok_mk, Bool.and_eq_true] at hok
    rw [depth_mk] at hd
    have hk : k ≠ 6 := fun e => by rw [if_pos e] at hd; omega
    have ht := encH_text hok.1
    have hln : l = [] := by
      rcases okHead_cases hok.1 with ⟨_, _, _, h⟩ | ⟨_, _, _, h⟩ | ⟨_, _, h⟩ | ⟨_, _, h⟩ | ⟨_, _, _, h⟩ | ⟨_, _, _, h⟩ | ⟨h, _⟩
      all_goals first | exact List.eq_nil_of_length_eq_zero h | exact absurd h hk
    subst hln
    rw [enc_mk, List.length_append] at hl
    rw [enc_mk, show encL [] = [] by simp [encL], List.append_nil] at he
    rw [decR_bad (hd_cut hok.1 (by omega) he hq) 0]
  | succ d ih =>
    intro t hok hin hd hl p q he hq
    obtain ⟨k, s, n, l⟩ := t
    rw [ok_mk, Bool.and_eq_true] at hok
    rw [depth_mk] at hd
    have ht := encH_text hok.1
    have hle : 3 * l.length ≤ (encL l).length := encL_len l fun t ht => (sz_enc t (okL_mem hok.2 ht)).2
    rw [enc_mk, List.length_append] at hl
    rw [enc_mk] at he
    by_cases hk : k = 6
    · rw [if_pos hk] at hd
      have arr : ∀ a : List UInt8, p = encH k s n l.length ++ a → encL l = a ++ q → (decR (d + 1) p).1 = 5 := by
        intro a e1 e2
        have hh := hd_enc hok.1 hin.num (by omega) (by omega) a
        rw [if_pos hk] at hh
        rw [e1, decR_arr hh d]
        have := decN_cut l [] a q (fun t' ht' r' => dec_enc d t' (okL_mem hok.2 ht') (hin.list t' ht') (by have := depthL_mem ht'; omega) (by have := encL_mem ht'; omega) r') (fun t' ht' p' q' e hq' => ih t' (okL_mem hok.2 ht') (hin.list t' ht') (by have := depthL_mem ht'; omega) (by have := encL_mem ht'; omega) p' q' e hq') e2 hq
        unfold arrR
        rw [if_neg (by rw [this]; decide), this]
      rcases List.append_eq_append_iff.1 he with ⟨a, e1, e2⟩ | ⟨a, e1, e2⟩
      · exact arr a e1 e2
      · by_cases ha : a = []
        · subst ha
          rw [List.append_nil] at e1
          exact arr [] (by rw [← e1, List.append_nil]) (by rw [List.nil_append] at e2 ⊢; exact e2.symm)
        · rw [decR_bad (hd_cut hok.1 (by omega) e1 ha) (d + 1)]
    · have hln : l = [] := by
        rcases okHead_cases hok.1 with ⟨_, _, _, h⟩ | ⟨_, _, _, h⟩ | ⟨_, _, h⟩ | ⟨_, _, h⟩ | ⟨_, _, _, h⟩ | ⟨_, _, _, h⟩ | ⟨h, _⟩
        all_goals first | exact List.eq_nil_of_length_eq_zero h | exact absurd h hk
      subst hln
      rw [show encL [] = [] by simp [encL], List.append_nil] at he
      rw [decR_bad (hd_cut hok.1 (by omega) he hq) (d + 1)]
theorem nul_of_bad : ∀ (d : Nat) (l : List UInt8), (decR d l).1 ≠ 0 → (decR d l).2.1 = nul := by
  intro d l h
  cases d with
  | zero =>
    unfold decR at *
    split at h <;> first | rfl | exact absurd rfl h
  | succ d =>
    unfold decR at *
    split at h
    · rfl
    · exact absurd rfl h
    · unfold arrR at *
      split
      · rename_i e
        rw [if_pos e] at h
        exact absurd rfl h
      · rfl

/-! plain -/
def strip (s : ByteArray) : ByteArray := B ((L s).filter fun c => !isEnd c)
def kp (k : Int) : Int := k.emod 7 + 1
/-- what plain makes of a reply without a list -/
def plH (k : Int) (s : ByteArray) (n : Int) : RT :=
  if kp k ≤ 2 then .mk (kp k) (strip s) 0 [] else if kp k = 3 then .mk 3 ⟨#[]⟩ n [] else if kp k = 4 then .mk 4 s 0 [] else .mk (kp k) ⟨#[]⟩ 0 []
def plainR : Nat → RT → RT
  | 0, .mk k s n _ => if kp k = 6 then .mk 7 ⟨#[]⟩ 0 [] else plH k s n
  | g + 1, .mk k s n l => if l ≠ [] ∨ kp k = 6 then .mk 6 ⟨#[]⟩ 0 (l.map (plainR g)) else plH k s n
theorem kp_range (k : Int) : 1 ≤ kp k ∧ kp k ≤ 7 := by
  unfold kp
  have h1 := Int.emod_nonneg k (show (7 : Int) ≠ 0 by decide)
  have h2 := Int.emod_lt_of_pos k (show (0 : Int) < 7 by decide)
  simp only [HMod.hMod, Mod.mod] at h1 h2
  omega
theorem strip_noEnd (s : ByteArray) : noEnd (L (strip s)) = true := by
  unfold strip
  rw [L_B]
  unfold noEnd
  rw [List.all_eq_true]
  intro c hc
  exact (List.mem_filter.1 hc).2
theorem strip_size (s : ByteArray) : (strip s).size ≤ s.size := by
  have h1 : (strip s).size = (L (strip s)).length := (L_length _).symm
  rw [h1]
  unfold strip
  rw [L_B, ← L_length s]
  exact List.length_filter_le _ _
theorem plH_ok (k : Int) (s : ByteArray) (n : Int) (h6 : kp k ≠ 6) (hn : In64 n) : (plH k s n).ok = true ∧ (plH k s n).In ∧ (plH k s n).depth = 0 ∧ (plH k s n).sz ≤ s.size + 25 := by
  have hno : ∀ t' : RT, t' ∈ ([] : List RT) → In t' := fun t' ht' => by cases ht'
  have h0 : In64 0 := by unfold In64; omega
  have e0 : (⟨#[]⟩ : ByteArray).size = 0 := rfl
  have hs := strip_size s
  have hse := strip_noEnd s
  obtain ⟨r1, r2⟩ := kp_range k
  unfold plH
  by_cases h1 : kp k ≤ 2
  · rw [if_pos h1]
    rcases (show kp k = 1 ∨ kp k = 2 by omega) with e | e <;> rw [e]
    · refine ⟨by simp [ok, okL, okHead, hse], .mk _ _ _ _ h0 hno, by simp [depth], ?_⟩
      simp only [sz_mk, szL]; omega
    · refine ⟨by simp [ok, okL, okHead, hse], .mk _ _ _ _ h0 hno, by simp [depth], ?_⟩
      simp only [sz_mk, szL]; omega
  · rw [if_neg h1]
    by_cases h3 : kp k = 3
    · rw [if_pos h3]
      refine ⟨by simp [ok, okL, okHead, e0], .mk _ _ _ _ hn hno, by simp [depth], ?_⟩
      simp only [sz_mk, szL, e0]; omega
    · rw [if_neg h3]
      by_cases h4 : kp k = 4
      · rw [if_pos h4]
        refine ⟨by simp [ok, okL, okHead], .mk _ _ _ _ h0 hno, by simp [depth], ?_⟩
        simp only [sz_mk, szL]; omega
      · rw [if_neg h4]
        rcases (show kp k = 5 ∨ kp k = 7 by omega) with e | e <;> rw [e]
        · refine ⟨by simp [ok, okL, okHead, e0], .mk _ _ _ _ h0 hno, by simp [depth], ?_⟩
          simp only [sz_mk, szL, e0]; omega
        · refine ⟨by simp [ok, okL, okHead, e0], .mk _ _ _ _ h0 hno, by simp [depth], ?_⟩
          simp only [sz_mk, szL, e0]; omega
theorem plainL (g : Nat) : ∀ l : List RT, (∀ t ∈ l, (plainR g t).ok = true ∧ (plainR g t).In ∧ (plainR g t).depth ≤ g ∧ (plainR g t).sz ≤ t.sz) →
    okL (l.map (plainR g)) = true ∧ (∀ t ∈ l.map (plainR g), t.In) ∧ depthL (l.map (plainR g)) ≤ g ∧ szL (l.map (plainR g)) ≤ szL l
  | [], _ => ⟨by simp [okL], fun t ht => (by cases ht), by simp [depthL], by simp [szL]⟩
  | t :: l, h => by
    obtain ⟨a1, a2, a3, a4⟩ := h t (by simp)
    obtain ⟨b1, b2, b3, b4⟩ := plainL g l fun t' ht' => h t' (by simp [ht'])
    refine ⟨by simp [okL, a1, b1], fun t' ht' => ?_, by simp only [List.map_cons, depthL]; omega, by simp only [List.map_cons, szL]; omega⟩
    rw [List.map_cons] at ht'
    rcases List.mem_cons.1 ht' with rfl | ht'
    · exact a2
    · exact b2 t' ht'
theorem plain_ok : ∀ (g : Nat) (t : RT), t.In → (plainR g t).ok = true ∧ (plainR g t).In ∧ (plainR g t).depth ≤ g ∧ (plainR g t).sz ≤ t.sz := by
  have hno : ∀ t' : RT, t' ∈ ([] : List RT) → In t' := fun t' ht' => by cases ht'
  have h0 : In64 0 := by unfold In64; omega
  have e0 : (⟨#[]⟩ : ByteArray).size = 0 := rfl
  intro g
  induction g with
  | zero =>
    intro t ht
    obtain ⟨k, s, n, l⟩ := t
    simp only [plainR]
    by_cases h6 : kp k = 6
    · rw [if_pos h6]
      refine ⟨by simp [ok, okL, okHead, e0], .mk _ _ _ _ h0 hno, by simp [depth], ?_⟩
      simp only [sz_mk, szL, e0]; omega
    · rw [if_neg h6]
      obtain ⟨a, b, c, d⟩ := plH_ok k s n h6 ht.num
      exact ⟨a, b, by omega, by rw [sz_mk]; omega⟩
  | succ g ih =>
    intro t ht
    obtain ⟨k, s, n, l⟩ := t
    simp only [plainR]
    by_cases h6 : l ≠ [] ∨ kp k = 6
    · rw [if_pos h6]
      obtain ⟨b1, b2, b3, b4⟩ := plainL g l fun t' ht' => ih t' (ht.list t' ht')
      refine ⟨by simp [ok, okHead, e0, b1], .mk _ _ _ _ h0 b2, by rw [depth_mk, if_pos rfl]; omega, ?_⟩
      simp only [sz_mk, e0]; omega
    · rw [if_neg h6]
      obtain ⟨a, b, c, d⟩ := plH_ok k s n (fun e => h6 (.inr e)) ht.num
      exact ⟨a, b, by omega, by rw [sz_mk]; omega⟩
end RT
end Go.Proofs.YtakldjdohgmeiaaDoor

namespace Go.Proofs.YtakldjdohgmeiaaDoor
set_option maxRecDepth 20000
namespace Pl
def sub1 (c d x : UInt8) : UInt8 := if x = c then d else x
theorem replK_eq (c d : UInt8) (k : Nat) (l : List UInt8) : Lib.replaceK [c] [d] (k + 1) (c :: l) = d :: Lib.replaceK [c] [d] k l := by
  have hix : Lib.index (c :: l) [c] = ((0 : Nat) : Int) := by rw [Lib.index]; simp [List.isPrefixOf]
  rw [Lib.replaceK_hit _ _ _ _ 0 hix]
  simp
theorem replK_ne (c d b : UInt8) (h : b ≠ c) (k : Nat) (l : List UInt8) : Lib.replaceK [c] [d] k (b :: l) = b :: Lib.replaceK [c] [d] k l := by
  cases k with
  | zero => rfl
  | succ k =>
    have hp : ([c] : List UInt8).isPrefixOf (b :: l) = false := by simp [List.isPrefixOf, Ne.symm h]
    have hix : Lib.index (b :: l) [c] = if Lib.index l [c] == -1 then -1 else Lib.index l [c] + 1 := by rw [Lib.index, hp]; simp
    have hge := Lib.index_ge l [c]
    by_cases hm : Lib.index l [c] = -1
    · have e1 : Lib.index (b :: l) [c] = -1 := by rw [hix, hm]; first | done | rfl
      rw [Lib.replaceK, Lib.replaceK, e1, hm]
      rfl
    · obtain ⟨i, hi⟩ : ∃ i : Nat, Lib.index l [c] = i := ⟨_, (Int.toNat_of_nonneg (by omega)).symm⟩
      have e1 : Lib.index (b :: l) [c] = ((i + 1 : Nat) : Int) := by
        rw [hix, hi, if_neg (by simp <;> omega)]
        omega
      rw [Lib.replaceK_hit _ _ _ _ (i + 1) e1, Lib.replaceK_hit _ _ _ _ i hi]
      simp
theorem replAll (c d : UInt8) (h : c ≠ d) (l : List UInt8) : Lib.replaceAll l [c] [d] = l.map (sub1 c d) := by
  unfold Lib.replaceAll Lib.replace Lib.replaceNum
  rw [if_neg (by simpa using h), if_pos (.inl (by decide)), Lib.count_one]
  induction l with
  | nil => rfl
  | cons b l ih =>
    by_cases hb : b = c
    · subst hb
      rw [List.count_cons_self, replK_eq, ih]
      simp [sub1]
    · rw [List.count_cons_of_ne hb, replK_ne c d b hb, ih]
      simp [sub1, hb]
/-- what Error makes of a text -/
def errL (l : List UInt8) : List UInt8 := l.map fun c => if isEnd c then 32 else c
def errT (s : ByteArray) : ByteArray := B (errL (L s))
theorem errL_eq (l : List UInt8) : Lib.replaceAll (Lib.replaceAll l [13] [32]) [10] [32] = errL l := by
  rw [replAll 13 32 (by decide), replAll 10 32 (by decide), List.map_map]
  unfold errL
  apply List.map_congr_left
  intro c _
  unfold sub1 isEnd
  by_cases h1 : c = 13
  · subst h1; decide
  · by_cases h2 : c = 10
    · subst h2; decide
    · simp [h1, h2]
theorem errT_size (s : ByteArray) : (errT s).size = s.size := by
  unfold errT errL
  rw [B_size, List.length_map, L_length]
theorem errT_noEnd (s : ByteArray) : noEnd (L (errT s)) = true := by
  unfold errT errL
  rw [L_B]
  unfold noEnd
  rw [List.all_eq_true]
  intro c hc
  obtain ⟨x, _, rfl⟩ := List.mem_map.1 hc
  by_cases h : isEnd x = true
  · rw [if_pos h]; decide
  · rw [if_neg h]
    simpa using h
theorem errT_data (s : ByteArray) : (⟨(Lib.replaceAll (⟨(Lib.replaceAll s.data.toList [13] [32]).toArray⟩ : ByteArray).data.toList [10] [32]).toArray⟩ : ByteArray) = errT s := by
  apply ba_ext
  show (Lib.replaceAll (Lib.replaceAll s.data.toList [13] [32]) [10] [32]) = _
  rw [errL_eq]
  unfold errT
  rw [L_B]
  rfl
end Pl
end Go.Proofs.YtakldjdohgmeiaaDoor

namespace Go.Proofs.YtakldjdohgmeiaaDoor
open Go.RowKit
set_option maxRecDepth 20000

namespace Mm
open Pl
/-- a slice of bytes that can be read -/
def BytesR (w : World) (v : Value) (l : List UInt8) : Prop :=
  ∃ p c, v = .slice p l.length c ∧ (l.length = 0 ∨ ∃ g o, p = some ⟨g, o, none⟩ ∧ g < w.heap.size ∧ BytesAt w g o l)
theorem BytesR.below {w w' : World} {v : Value} {l : List UInt8} (h : BytesR w v l) (hb : Below w.heap.size w w') : BytesR w' v l := by
  obtain ⟨p, c, hv, h0 | ⟨g, o, hp, hg, hm⟩⟩ := h
  · exact ⟨p, c, hv, .inl h0⟩
  · exact ⟨p, c, hv, .inr ⟨g, o, hp, Nat.lt_of_lt_of_le hg hb.size, hm.keep (hb.block g hg)⟩⟩
theorem OwnB.bytesR {w : World} {b : Nat} {v : Value} {l : List UInt8} (h : OwnB w b v l) : BytesR w v l := by
  obtain ⟨a, c, rfl, h0 | ⟨g, rfl, _, hg, _⟩⟩ := h.val
  · exact ⟨_, _, rfl, .inl h0.1⟩
  · exact ⟨_, _, rfl, .inr ⟨g, 0, rfl, hg, h.bytesAt⟩⟩
end Mm

/-- the same bytes are told to be the same -/
theorem same16_eq (va vb : Value) (l : List UInt8) (w : World) (hl : l.length ≤ 9223372036854775807) (ha : Mm.BytesR w va l) (hb : Mm.BytesR w vb l) :
    Calls Tryd.prog 14 #[va, vb] w fun e w' => e = .returned (.bool true) ∧ Below w.heap.size w w' := by
  obtain ⟨pa, ca, rfl, ha⟩ := ha
  obtain ⟨pb, cb, rfl, hb⟩ := hb
  obtain ⟨n, hn⟩ : ∃ n, n = l.length := ⟨_, rfl⟩
  rw [← hn] at ha hb hl ⊢
  have HA := Pl.hid ha
  have HB := Pl.hid hb
  have HN := Pl.hid hn
  clear ha hb hn
  go_enter Tryd.func14, Tryd.ntmps14
  go_wp2_with fail
  go_loopw [13] (fun iv wr => ∃ i : Nat, iv = .int .i64 i ∧ i ≤ n ∧ Hid (Below w.heap.size w wr)) (fun iv _ => n - (intOf iv).toNat)
  case atStart => exact ⟨0, rfl, Nat.zero_le _, Below.refl _ _⟩
  case round =>
    obtain ⟨i, rfl, hi, HR⟩ := hrel
    rcases Nat.lt_or_ge i n with hlt | hge
    · rcases HA.out with h0 | ⟨g, o, rfl, hg, hm⟩
      · omega
      rcases HB.out with h0 | ⟨g', o', rfl, hg', hm'⟩
      · omega
      have hc := (HR.out.cell (p := ⟨g, o + i, none⟩) hg).trans (hm i (by rw [← HN.out]; exact hlt))
      have hc' := (HR.out.cell (p := ⟨g', o' + i, none⟩) hg').trans (hm' i (by rw [← HN.out]; exact hlt))
      have HX := Pl.hid hm
      have HX' := Pl.hid hm'
      clear hm hm'
      go_wp2_with fail
      go_quiet (fail)
      go_wp2_with fail
      go_roundw
      case rel => exact ⟨i + 1, by go_num, by omega, HR.out.trans (Mm.below_drewN _ _)⟩
      case measure => simp [intOf]; omega
    · go_wp2_with fail
      go_ret
      exact ⟨rfl, HR.out⟩

/-- what spoil touches: the row's block, and what is new -/
theorem Mm.ShR.slice {w : World} {lo : Nat} {e : TypeId} {z : Nat} {v : Value} {n : Nat} (h : Mm.ShR w lo e z v n) (hn : 0 < n) : ∃ g c, v = .slice (some ⟨g, 0, none⟩) n c ∧ v.ownBlock = some g := by
  rcases h with ⟨rfl, rfl⟩ | ⟨g, cap, cur, rfl, _⟩
  · omega
  · exact ⟨g, cap, rfl, rfl⟩

theorem Mm.grown_low {w a b : World} {row : Option Nat} {B : Nat} (h : w.grownBy a row) (hb : Below B a b) (hB : w.heap.size ≤ B) : w.grownBy b row :=
  ⟨hb.os.trans h.os, hb.tape.trans h.tape, hb.output.trans h.output, Nat.le_trans h.size hb.size, fun g hg hne => (hb.block g (Nat.lt_of_lt_of_le hg hB)).trans (h.block g hg hne)⟩
theorem Mm.ShR.low {w w' : World} {lo : Nat} {e : TypeId} {z : Nat} {v : Value} {n : Nat} {B : Nat} (h : Mm.ShR w lo e z v n) (hb : Below B w w') (hv : ∀ k, v.ownBlock = some k → k < B) : Mm.ShR w' lo e z v n := by
  rcases h with h0 | ⟨g, cap, cur, rfl, h2, h3, h4, h5, h6⟩
  · exact .inl h0
  · exact .inr ⟨g, cap, cur, rfl, h2, (hb.block g (hv g rfl)).trans h3, h4, h5, h6⟩

set_option maxHeartbeats 4000000 in
theorem spoil_walk (lo : Nat) (v : Value) (n : Nat) (w : World) (hn : n ≤ 1099511627776) (hv : Mm.ShR w lo 5 1 v n) (hlo : lo ≤ w.heap.size) :
    Calls Tryd.prog 22 #[v] w fun e w' => (∃ u, e = .returned u) ∧ w.grownBy w' v.ownBlock := by
  obtain ⟨va, vc, hvv, hva⟩ : ∃ a c, v = .slice a n c ∧ (n = 0 ∨ ∃ g, a = some ⟨g, 0, none⟩ ∧ v.ownBlock = some g) := by
    rcases hv with ⟨rfl, rfl⟩ | ⟨g, cap, cur, rfl, _⟩
    · exact ⟨none, 0, rfl, .inl rfl⟩
    · exact ⟨_, _, rfl, .inr ⟨g, rfl, rfl⟩⟩
  have HV := Pl.hid hv
  have HVA := Pl.hid hva
  have HLO := Pl.hid hlo
  obtain ⟨row, hrow⟩ : ∃ row, row = v.ownBlock := ⟨_, rfl⟩
  have HROW := Pl.hid hrow
  rw [← hrow] at HVA ⊢
  subst hvv
  clear hv hva hlo hrow
  go_enter Tryd.func22, Tryd.ntmps22
  go_wp2_with fail
  go_loopw [8] (fun iv wr => ∃ i : Nat, iv = .int .i64 i ∧ i ≤ n ∧ Hid (w.grownBy wr row) ∧ Hid (Mm.ShR wr lo 5 1 (.slice va n vc) n)) (fun iv _ => n - (intOf iv).toNat)
  case atStart => exact ⟨0, rfl, Nat.zero_le _, Mm.grown_below (Below.refl _ _), HV.out⟩
  case round =>
    obtain ⟨i, rfl, hi, HG, HS⟩ := hrel
    rcases Nat.lt_or_ge i n with hlt | hge
    · rcases HVA.out with h0 | ⟨g, rfl, hrow⟩
      · omega
      have HROW2 := Pl.hid hrow
      clear hrow
      go_wp2_with (refine Mm.wp_storeSh wr rfl _ _ rfl lo g i n vc 90 HS.out (by rfl) (by rfl) hlt ?_; intro w2 hs2 hg2 hp2; have HS2 := Pl.hid (HS.out.shp hp2); have HG2 := Pl.hid (Mm.grown_step HG.out hg2 (fun k hk => .inl (by rw [HROW2.out, hk]))); clear hs2 hg2 hp2)
      exact ⟨⟨i + 1, by go_num, hlt, HG2.out, HS2.out⟩, by simp [intOf]; omega⟩
    · have HWR : Hid (w.heap.size ≤ wr.heap.size ∧ lo ≤ wr.heap.size) := ⟨HG.out.size, Nat.le_trans HLO.out HG.out.size⟩
      have hd9 : decide (i < n) = false := decide_eq_false (by omega)
      go_wp2_with fail
      clear hd9
      go_loopw [3, 16] (fun vv jv wr => ∃ (j : Nat), jv = .int .i64 j ∧ j ≤ 20 ∧ Hid (w.grownBy wr row) ∧ Hid (Mm.ShR wr lo 5 1 (.slice va n vc) n) ∧ Hid (Mm.ShR wr lo 5 1 vv (n + j)) ∧ Hid (∀ k, vv.ownBlock = some k → some k = row ∨ w.heap.size ≤ k)) (fun _ jv _ => 20 - (intOf jv).toNat)
      case atStart => exact ⟨0, rfl, Nat.zero_le _, HG.out, HS.out, HS.out, fun k hk => .inl (by rw [HROW.out, hk])⟩
      case round =>
        obtain ⟨j, rfl, hj, HG3, HS3, HV3, HO3⟩ := hrel
        have HLO3 : Hid (lo ≤ wr.heap.size ∧ w.heap.size ≤ wr.heap.size ∧ n + j < 140737488355328) := ⟨Nat.le_trans HLO.out HG3.out.size, HG3.out.size, by omega⟩
        rcases Nat.lt_or_ge j 20 with hlt | hge2
        · go_wp2_with (at_builtin; refine Mm.wp_app1Sh wr rfl _ _ (by rfl) lo u3 (n + j) 91 (by rfl) (by rfl) HV3.out HLO3.out.2.2 HLO3.out.1 ?_; intro v4 w4 hs4 hg4 hb4 hp4; have HS4 := Pl.hid hs4; have HP4 := Pl.hid (HS3.out.shp hp4); have HG4 := Pl.hid (Mm.grown_step HG3.out hg4 HO3.out); have HO4 : Hid (∀ k, v4.ownBlock = some k → some k = row ∨ w.heap.size ≤ k) := (fun k hk => by
              rcases hb4 with hb4 | ⟨k', hb4, hk'⟩
              · exact HO3.out k (hb4 ▸ hk)
              · rw [hb4] at hk; injection hk with hk; exact .inr (by have := HLO3.out.2.1; omega)); clear hs4 hg4 hb4 hp4)
          go_roundw
          case rel => exact ⟨j + 1, by go_num, hlt, HG4.out, HP4.out, HS4.out, HO4.out⟩
          case measure => simp [intOf]; omega
        · obtain rfl : j = 20 := by omega
          go_wp2_with (refine Mm.wp_makeN wr rfl _ _ rfl 70 (by rfl) (by rfl) (by decide) (by decide) ?_; intro wm hm1 hm2 hm3; have HM1 := Pl.hid hm1; have HM2 := Pl.hid hm2; have HM3 := Pl.hid hm3; clear hm1 hm2 hm3)
          obtain ⟨gm, hgm⟩ : ∃ gm, gm = wr.heap.size := ⟨_, rfl⟩
          rw [← hgm] at HM1 HM2 HM3
          rw [← hgm]
          have HGM := Pl.hid hgm
          have HG5 : Hid (w.grownBy wm row) := Mm.grown_step HG3.out (Mm.grown_below (row := none) (by rw [← HGM.out]; exact HM3.out)) (fun k hk => by cases hk)
          have HS5 : Hid (Mm.ShR wm lo 5 1 (.slice va n vc) n) := HS3.out.shp (Mm.Shp.below (by rw [← HGM.out]; exact HM3.out))
          have HGM7 : Hid (w.heap.size ≤ gm) := by have := HG3.out.size; show _ ≤ _; rw [HGM.out]; exact this
          have HLT5 : Hid (∀ k, (Value.slice va n vc).ownBlock = some k → k < gm) := (fun k hk => by rw [HGM.out]; exact (HS3.out.lt hk).2)
          clear hgm
          go_loopw [25] (fun kv wr => ∃ (k : Nat) (m : List UInt8), kv = .int .i64 k ∧ k ≤ 70 ∧ m.length = 70 ∧ Hid (Mm.BlkB wr gm m) ∧ Hid (w.grownBy wr row) ∧ Hid (Mm.ShR wr lo 5 1 (.slice va n vc) n)) (fun kv _ => 70 - (intOf kv).toNat)
          case atStart => exact ⟨0, _, rfl, Nat.zero_le _, by decide, HM1.out, HG5.out, HS5.out⟩
          case round =>
            obtain ⟨k, m, rfl, hk, hm, HB6, HG6, HS6⟩ := hrel
            have HML := Pl.hid hm
            clear hm
            have HLO6 : Hid (lo ≤ wr.heap.size ∧ n + 70 < 140737488355328) := ⟨Nat.le_trans HLO.out HG6.out.size, by omega⟩
            rcases Nat.lt_or_ge k 70 with hlt | hge3
            · go_wp2_with (refine Mm.wp_storeB wr rfl _ _ rfl gm k m 92 HB6.out (by rfl) (by rfl) (by decide) (by decide) (by rw [HML.out]; exact hlt) ?_; intro w7 hb7 hs7 hl7; have HB7 := Pl.hid hb7; have HG7 := Pl.hid (Mm.grown_low HG6.out (hl7 gm (Nat.le_refl _)) HGM7.out); have HS7 := Pl.hid (HS6.out.low (hl7 gm (Nat.le_refl _)) HLT5.out); clear hb7 hs7 hl7)
              exact ⟨⟨k + 1, _, by go_num, hlt, by rw [List.length_set]; exact HML.out, HB7.out, HG7.out, HS7.out⟩, by simp [intOf]; omega⟩
            · go_wp2_with (first
                | (at_builtin; refine Mm.wp_appMSh wr rfl _ _ (by rfl) lo (.slice va n vc) n gm 70 m 70 HML.out (by rfl) (by rfl) HS6.out HB6.out (by rw [HML.out]; exact HLO6.out.2) HLO6.out.1 ?_; intro v8 w8 hs8 hg8 hb8 hp8; rw [HML.out] at hs8; obtain ⟨g8, c8, rfl, ho8⟩ := hs8.slice (by omega); have HS8 := Pl.hid hs8; have HG8 := Pl.hid (Mm.grown_step HG6.out hg8 (fun k hk => .inl (by rw [HROW.out, hk]))); have HO8 : Hid (some g8 = row ∨ w.heap.size ≤ g8) := (by
                      show _ ∨ _
                      rw [ho8] at hb8
                      rcases hb8 with hb8 | hb8
                      · exact .inl (by rw [hb8, HROW.out])
                      · injection hb8 with hb8
                        exact .inr (by rw [hb8]; exact HG6.out.size)); clear hs8 hg8 hb8 hp8 ho8)
                | (refine Mm.wp_storeSh w8 rfl _ _ rfl lo g8 0 (n + 70) c8 93 HS8.out (by rfl) (by rfl) (by omega) ?_; intro w9 hs9 hg9 hp9; have HG9 := Pl.hid (Mm.grown_step HG8.out hg9 (fun k hk => by injection hk with hk; subst hk; exact HO8.out)); clear hs9 hg9 hp9))
              go_end0
              exact ⟨⟨_, rfl⟩, HG9.out⟩
end Go.Proofs.YtakldjdohgmeiaaDoor

namespace Go.Proofs.YtakldjdohgmeiaaDoor
open Go.RowKit Go.Lib
set_option maxRecDepth 20000

theorem setInfo : (Tryd.prog.info? 132).map (fun i => (i.zero, i.size)) = some (some (.agg (Array.replicate 256 (.bool false))), 256) := by kernel_rfl
theorem setSize : (Tryd.prog.info? 132).map (·.size) = some 256 := by kernel_rfl

/-- a load, whose run is known -/
theorem Mm.wp_loadAt {ops : Array Oper} {rest : List Oper} {op : Oper} {a : Act} {Q : Exit → Act → World → Prop} (w : World) (hgd : op.guard = none) (T : TypeId) (x : Operand) (ho : op.op = .load T x)
    (p : Value) (v : Value) (hx : a.eval x = p) (hr : (Instr.loadAt T p).run Tryd.prog w = .ok v w) (hK : wpList Tryd.prog ops Q rest (a.put op.dst v) w) : wpList Tryd.prog ops Q (op :: rest) a w := by
  refine wpList_plain hgd fun K hK' => ?_
  unfold Oper.wp execOp
  simp only [ho, hx, Sem.run_bind, Sem.run_pure, Result.andThen_ok, hr]
  exact hK' _ _ hK
/-- a store, whose run is known -/
theorem Mm.wp_storeAt {ops : Array Oper} {rest : List Oper} {op : Oper} {a : Act} {Q : Exit → Act → World → Prop} (w w' : World) (hgd : op.guard = none) (T : TypeId) (x y : Operand) (ho : op.op = .store T x y)
    (p : Value) (v : Value) (hx : a.eval x = p) (hy : a.eval y = v) (hr : (Instr.storeAt T p v).run Tryd.prog w = .ok () w') (hK : wpList Tryd.prog ops Q rest (a.put op.dst undef) w') : wpList Tryd.prog ops Q (op :: rest) a w := by
  refine wpList_plain hgd fun K hK' => ?_
  unfold Oper.wp execOp
  simp only [ho, hx, hy, Sem.run_bind, Sem.run_pure, Result.andThen_ok, hr]
  exact hK' _ _ hK

set_option maxHeartbeats 4000000 in
set_option maxRecDepth 1000000 in
theorem bmake_walk (chars : ByteArray) (w : World) (hs : chars.size < 4294967281) (hascii : ∀ (j : Nat) b, chars.data.toList[j]? = some b → b.toNat < 128) :
    Calls Tryd.prog 104 #[.string chars] w fun e w' => e = .returned (.tuple #[.agg (Lib.setCells chars.data.toList), .bool true]) ∧ w' = w.alloc (.cells (Lib.setCells chars.data.toList) 132) := by
  have HA : Aside (∀ (j : Nat) b, chars.data.toList[j]? = some b → b.toNat < 128) := hascii
  have hv116 := (zero_of_info setInfo).1
  clear hascii
  go_enter Tryd.func104, Tryd.ntmps104
  go_wp2
  rw [← Lib.setCells_nil]
  go_loopg [4] chars.size (fun g s4 wx => ∃ i : Nat, i + g = chars.size ∧ s4 = .int .i64 i ∧ wx = w.alloc (.cells (Lib.setCells (chars.data.toList.take i)) 132))
  case atStart => exact ⟨0, by omega, rfl, rfl⟩
  case round =>
    obtain ⟨i, hig, rfl, rfl⟩ := hrel
    cases gk with
    | zero =>
      obtain rfl : i = chars.size := by omega
      have hiz : ¬ ((chars.size : Int) < (chars.size : Int)) := by omega
      rw [show chars.data.toList.take chars.size = chars.data.toList from List.take_of_length_le (by rw [← Lib.size_eq]; exact Nat.le_refl _)]
      have hld := run_loadVar_new (P := Tryd.prog) w 132 (Lib.setCells chars.data.toList) 256 4 Tryd.underlying132 (by rw [Lib.setCells_size]; exact setSize)
      have hsz := Lib.setCells_size chars.data.toList
      have hla := run_loadAt_new (P := Tryd.prog) w 132 (Lib.setCells chars.data.toList) 256 4 Tryd.underlying132 (by rw [Lib.setCells_size]; exact setSize)
      have hsa := run_storeAt_new (P := Tryd.prog) w 132 (Lib.setCells chars.data.toList) (Lib.setCells chars.data.toList) (by rw [hsz]; exact setSize) rfl (Lib.setCells_one _)
      have HLA := Pl.hid hla
      have HSA := Pl.hid hsa
      clear hla hsa
      go_wp2_with (first
        | (refine Mm.wp_loadAt _ rfl 132 _ rfl _ _ (by rfl) HLA.out ?_)
        | (refine Mm.wp_storeAt _ _ rfl 132 _ _ rfl _ _ (by rfl) (by rfl) HSA.out ?_))
      (try simp only [Exit.inBlock, Exit.then])
      refine bodyPost_ret (v := .tuple #[.agg (Lib.setCells chars.data.toList), .bool true]) ?_ rfl ⟨rfl, rfl⟩
      rw [results_cell_tmp rfl]
      simp [asAddr, Result.andThen, hld]
    | succ g =>
      have hi : i < chars.size := by omega
      have hiz : (i : Int) < (chars.size : Int) := by omega
      obtain ⟨x, hx⟩ : ∃ x : UInt8, chars[i]'hi = x := ⟨_, rfl⟩
      have hxl : chars.data.toList[i]? = some x := by rw [← hx]; exact Lib.data_getElem? chars i hi
      have hx128 : ¬ ((128 : Int) ≤ (x.toNat : Int)) := by have := HA.out i x hxl; omega
      have hx256 : (x.toNat : Int) < 256 := by have := HA.out i x hxl; omega
      have hcell := Lib.setCells_at (chars.data.toList.take i) x
      have Hx : Aside (chars.data.toList[i]? = some x) := hxl
      clear hxl
      go_wp2
      go_roundg g
      case measure => omega
      case rel => exact ⟨i + 1, by omega, by first | rfl | simp, by rw [List.take_add_one, Hx.out]; simp only [Option.toList]; rw [Lib.setCells_snoc]⟩

set_option maxRecDepth 1000000 in
theorem bcontains_walk (b : Nat) (x : UInt8) (v : Bool) (w : World) (hc : w.cell? ⟨b, x.toNat, none⟩ = some (.bool v)) :
    Calls Tryd.prog 105 #[.pointer (some ⟨b, 0, none⟩), .int .u8 x.toNat] w fun e w' => e = .returned (.bool v) ∧ w' = w := by
  have hx256 : (x.toNat : Int) < 256 := by have := UInt8.toNat_lt x; omega
  go_enter Tryd.func105, Tryd.ntmps105
  go_wp2
  go_ret
  exact ⟨rfl, rfl⟩
theorem bshould_walk (n : Int) (w : World) : Calls Tryd.prog 103 #[.int .i64 n] w fun e w' => e = .returned (.bool (decide (8 < n))) ∧ w = w' := by
  go_enter Tryd.func103, Tryd.ntmps103
  go_wp2
  go_ret
  exact ⟨rfl, rfl⟩

namespace Pl
/-- where CR or LF first stands -/
def hitE (l : List UInt8) (n : Int) : Prop := (noEnd l = true ∧ n = -1) ∨ ∃ i : Nat, n = i ∧ i < l.length ∧ noE l i ∧ isEnd (l.getD i 0) = true
theorem noE_zero (l : List UInt8) : noE l 0 := fun j hj => absurd hj (Nat.not_lt_zero _)
theorem noE.succ {l : List UInt8} {i : Nat} (h : noE l i) (hx : isEnd (l.getD i 0) = false) : noE l (i + 1) := fun j hj => by
  rcases Nat.lt_or_ge j i with hlt | hge
  · exact h j hlt
  · rw [show j = i by omega]; exact hx
end Pl

set_option maxHeartbeats 8000000 in
set_option maxRecDepth 1000000 in
/-- more than eight bytes -/
theorem bindexAny_long (g o n c : Nat) (l : List UInt8) (w : World) (hn : n = l.length) (h8 : 8 < n) (hm : Mm.BytesAt w g o l) (hl : n ≤ 9223372036854775807) (hg : g < w.heap.size) :
    Calls Tryd.prog 84 #[.slice (some ⟨g, o, none⟩) n c, .string ⟨#[13, 10]⟩] w fun e w' => (∃ k : Int, e = .returned (.int .i64 k) ∧ Pl.hitE l k) ∧ Below w.heap.size w w' := by
  obtain ⟨cs, hcs⟩ : ∃ cs, cs = Lib.setCells [13, 10] := ⟨_, rfl⟩
  have hM := bmake_walk ⟨#[13, 10]⟩ w (by decide) (by
    intro j b hj
    rcases j with _ | _ | j
    · simp at hj; subst hj; decide
    · simp at hj; subst hj; decide
    · simp at hj)
  have hv116 := (zero_of_info setInfo).1
  have hd : (⟨#[13, 10]⟩ : ByteArray).data.toList = [13, 10] := rfl
  rw [hd, ← hcs] at hM
  have hsz : cs.size = 256 := by rw [hcs]; exact Lib.setCells_size _
  have hone : (cs.all fun x => x.oneCell') = true := by rw [hcs]; exact Lib.setCells_one _
  have hsc : (Instr.storeAt 132 (.pointer (some ⟨w.heap.size + 1, 0, none⟩)) (.agg cs)).run Tryd.prog ((w.alloc (.cells cs 132)).alloc (.cells (Array.replicate 256 (.bool false)) 132)) = .ok () ((w.alloc (.cells cs 132)).alloc (.cells cs 132)) := by
    have := run_storeAt_new (P := Tryd.prog) (w.alloc (.cells cs 132)) 132 (Array.replicate 256 (.bool false)) cs (by rw [hsz]; exact setSize) (by rw [hsz, Array.size_replicate]) hone
    simpa using this
  obtain ⟨w2, hw2⟩ : ∃ w2, w2 = (w.alloc (.cells cs 132)).alloc (.cells cs 132) := ⟨_, rfl⟩
  have HC : Hid (∀ x : UInt8, w2.cell? ⟨w.heap.size + 1, x.toNat, none⟩ = some (.bool (Pl.isEnd x))) := fun x => by
    rw [hw2, World.cell?_alloc_at _ _ _ _ (by simp), hcs, Lib.setCells_at, Pl.con2]
  have HB : Hid (Below w.heap.size w w2) := by rw [hw2]; exact ((Below.refl _ _).alloc (Nat.le_refl _) _).alloc (by simp) _
  have HM : Hid (∀ i, i < n → w2.cell? ⟨g, o + i, none⟩ = some (.int .u8 (l.getD i 0).toNat)) := fun i h => by
    have := (HB.out.cell (p := ⟨g, o + i, none⟩) hg).trans (hm i (by omega))
    exact this
  rw [← hw2] at hsc
  have HSC := Pl.hid hsc
  have HN := Pl.hid hn
  have hn1 : ((n : Int) == 1) = false := beq_eq_false_iff_ne.2 (by omega)
  have h8z : decide ((8 : Int) < (n : Int)) = true := decide_eq_true (by omega)
  clear hm hn hcs hone hw2 hg hsc
  go_enter Tryd.func84, Tryd.ntmps84
  go_wp2_with (first
    | (go_at_call 103; refine (bshould_walk _ _).mono ?_; rintro e w' ⟨rfl, rfl⟩; rw [h8z])
    | (go_at_call 104; refine hM.mono ?_; rintro e w' ⟨rfl, hw⟩; rw [hw])
    | (refine Mm.wp_storeAt _ _ rfl 132 _ _ rfl _ _ (by rfl) (by rfl) HSC.out ?_))
  clear hM
  go_loopw [62] (fun iv wr => ∃ i : Nat, iv = .int .i64 i ∧ i ≤ n ∧ wr = w2 ∧ Hid (Pl.noE l i)) (fun iv _ => n - (RowKit.intOf iv).toNat)
  case atStart => exact ⟨0, rfl, Nat.zero_le _, rfl, Pl.noE_zero l⟩
  case round =>
    obtain ⟨i, rfl, hi, rfl, HNo⟩ := hrel
    rcases Nat.lt_or_ge i n with hlt | hge
    · have hc := HM.out i hlt
      obtain ⟨x, hx⟩ : ∃ x, l.getD i 0 = x := ⟨_, rfl⟩
      rw [hx] at hc
      have HX := Pl.hid hx
      clear hx
      have hcx := HC.out x
      cases hin : Pl.isEnd x <;> rw [hin] at hcx
      · have HIN := Pl.hid hin
        clear hin
        go_wp2_with (go_at_call 105; refine (bcontains_walk _ x _ _ hcx).mono ?_; rintro e w' ⟨rfl, hw⟩; rw [hw])
        go_roundw
        case rel => exact ⟨i + 1, by go_num, hlt, by first | rfl | trivial, HNo.out.succ (by rw [HX.out]; exact HIN.out)⟩
        case measure => simp [RowKit.intOf]; omega
      · have HIN := Pl.hid hin
        clear hin
        go_wp2_with (go_at_call 105; refine (bcontains_walk _ x _ _ hcx).mono ?_; rintro e w' ⟨rfl, hw⟩; rw [hw])
        go_ret
        exact ⟨⟨_, rfl, .inr ⟨i, rfl, by rw [← HN.out]; exact hlt, HNo.out, by rw [HX.out]; exact HIN.out⟩⟩, HB.out⟩
    · obtain rfl : i = n := by omega
      go_wp2_with fail
      go_ret
      exact ⟨⟨_, rfl, .inl ⟨Pl.noE_all HNo.out (by rw [← HN.out]; exact Nat.le_refl _), rfl⟩⟩, HB.out⟩
end Go.Proofs.YtakldjdohgmeiaaDoor

namespace Go.Proofs
open Go.Shelf Go.Lib

def Tryd.lays7n32_ren : Go.Shelf.Ren := ⟨fun | 32 => 106 | 49 => 124 | n => n, fun | 0 => 0 | 3 => 3 | 4 => 4 | 5 => 5 | 21 => 21 | 25 => 51 | 30 => 24 | 33 => 112 | 66 => 152 | 68 => 154 | 69 => 155 | n => n, fun | 2 => 7 | 3 => 8 | n => n⟩
theorem Tryd.lays7n32 : Go.Proofs.Lays7.n32 Tryd.prog Tryd.lays7n32_ren := {
  mixed := by kernel_rfl
  f32 := Tryd.func106.trans (congrArg some (by kernel_rfl))
  f49 := Tryd.func124.trans (congrArg some (by kernel_rfl))
  t0 := Tryd.underlying0
  a0 := Tryd.isAgg0
  z0 := Tryd.sizeOf0
  v0 := Tryd.zeroValue0
  i0 := by kernel_rfl
  t3 := Tryd.underlying3
  a3 := Tryd.isAgg3
  z3 := Tryd.sizeOf3
  v3 := Tryd.zeroValue3
  i3 := by kernel_rfl
  t4 := Tryd.underlying4
  a4 := Tryd.isAgg4
  z4 := Tryd.sizeOf4
  v4 := Tryd.zeroValue4
  i4 := by kernel_rfl
  t5 := Tryd.underlying5
  a5 := Tryd.isAgg5
  z5 := Tryd.sizeOf5
  v5 := Tryd.zeroValue5
  i5 := by kernel_rfl
  t21 := Tryd.underlying21
  a21 := Tryd.isAgg21
  z21 := Tryd.sizeOf21
  v21 := Tryd.zeroValue21
  i21 := by kernel_rfl
  t25 := Tryd.underlying51
  a25 := Tryd.isAgg51
  z25 := Tryd.sizeOf51
  v25 := Tryd.zeroValue51
  i25 := by kernel_rfl
  t30 := Tryd.underlying24
  a30 := Tryd.isAgg24
  z30 := Tryd.sizeOf24
  v30 := Tryd.zeroValue24
  i30 := by kernel_rfl
  t33 := Tryd.underlying112
  a33 := Tryd.isAgg112
  z33 := Tryd.sizeOf112
  v33 := Tryd.zeroValue112
  i33 := by kernel_rfl
  t66 := Tryd.underlying152
  a66 := Tryd.isAgg152
  z66 := Tryd.sizeOf152
  t68 := Tryd.underlying154
  a68 := Tryd.isAgg154
  z68 := Tryd.sizeOf154
  v68 := Tryd.zeroValue154
  i68 := by kernel_rfl
  t69 := Tryd.underlying155
  a69 := Tryd.isAgg155
  z69 := Tryd.sizeOf155
  v69 := Tryd.zeroValue155
  i69 := by kernel_rfl
  g2 := by kernel_rfl
  g3 := by kernel_rfl }
end Go.Proofs
namespace Go.Proofs.YtakldjdohgmeiaaDoor
open Go.RowKit Go.Shelf Go.Lib
set_option maxRecDepth 20000

namespace Mm
/-- the two tables of utf8, for good -/
def U8 (w : World) : Prop := Stays (fun w => Lib.Utf8Tabs 7 8 w) w
theorem u8_of {w : World} (h : Lib.Utf8Tabs 7 8 w) : U8 w := fun w' hb =>
  ⟨fun c hc => (hb.cell (p := ⟨7, c, none⟩) (World.block_lt_of_cell? _ _ (h.1 c hc))).trans (h.1 c hc),
   fun i hi => ⟨(hb.cell (p := ⟨8, 2 * i, none⟩) (World.block_lt_of_cell? _ _ (h.2 i hi).1)).trans (h.2 i hi).1,
     (hb.cell (p := ⟨8, 2 * i + 1, none⟩) (World.block_lt_of_cell? _ _ (h.2 i hi).2)).trans (h.2 i hi).2⟩⟩
end Mm
theorem decodeRune_walk (s : ByteArray) (b off cap : Nat) (w : World) (hT : Mm.U8 w) (hp : ∀ j, j < s.size → w.cell? ⟨b, off + j, none⟩ = some (.int .u8 (s.get! j).toNat)) :
    Calls Tryd.prog 106 #[.slice (some ⟨b, off, none⟩) s.size cap] w fun e w' => e = .returned (.tuple #[.int .i32 (Lib.decodeGo s).1, .int .i64 (Lib.decodeGo s).2]) ∧ Below w.heap.size w w' :=
  Any7.utf8_DecodeRune Tryd.lays7n32 s b off cap w hT.here hp

/-! the row's list -/
def u8ren : Go.Shelf.Ren := ⟨fun n => n, fun | 5 => 5 | 119 => 152 | 138 => 154 | 139 => 155 | n => n, fun | 3 => 7 | 4 => 8 | n => n⟩
theorem u8types : U8Types Tryd.prog u8ren := ⟨Tryd.underlying5, Tryd.underlying152, Tryd.underlying154, Tryd.underlying155⟩
theorem u8extra : U8Extra Tryd.prog u8ren := ⟨by kernel_rfl, by kernel_rfl, by kernel_rfl, by kernel_rfl, by kernel_rfl, by kernel_rfl, by kernel_rfl⟩
end Go.Proofs.YtakldjdohgmeiaaDoor

namespace Go.Proofs.YtakldjdohgmeiaaDoor
open Go.RowKit
set_option maxRecDepth 20000

namespace Pl
theorem dec_val (s : ByteArray) (h : 0 < s.size) (hh : 128 ≤ (s.get! 0).toNat) (hne : (Utf8.decode s 0).1 ≠ 65533) :
    ((Utf8.decode s 0).2 = 2 ∧ (Utf8.decode s 0).1 < 2048) ∨ ((Utf8.decode s 0).2 = 3 ∧ (Utf8.decode s 0).1 < 65536) ∨ (Utf8.decode s 0).2 = 4 := by
  rw [Lib.decode_at] at *
  revert hne
  obtain ⟨q, hq⟩ : ∃ q, q = Lib.decodeN (s.size - 0) (s.get! 0).toNat (s.get! (0 + 1)).toNat (s.get! (0 + 2)).toNat (s.get! (0 + 3)).toNat := ⟨_, rfl⟩
  rw [← hq]
  unfold Lib.decodeN at hq
  intro hne
  repeat' split at hq
  all_goals (subst hq; first | exact absurd rfl hne | exact .inl ⟨rfl, by show _ < 2048; omega⟩ | exact .inr (.inl ⟨rfl, by show _ < 65536; omega⟩) | exact .inr (.inr rfl) | (exfalso; omega))
theorem enc_len (r : Int) (h : 128 ≤ r) : (r < 2048 → (Utf8.encode r).size = 2) ∧ (r < 65536 → (Utf8.encode r).size ≤ 3) ∧ 2 ≤ (Utf8.encode r).size ∧ (Utf8.encode r).size ≤ 4 := by
  unfold Utf8.encode
  obtain ⟨c, hc⟩ : ∃ c, c = (if Utf8.valid r then r.toNat else Utf8.runeError) := ⟨_, rfl⟩
  simp only [← hc]
  have h0 : 128 ≤ c := by rw [hc]; split <;> (try simp only [Utf8.runeError]) <;> omega
  have h1 : r < 65536 → c < 65536 := fun hr => by rw [hc]; split <;> (try simp only [Utf8.runeError]) <;> omega
  have h2 : r < 2048 → c < 2048 := fun hr => by
    rw [hc]
    have hv : Utf8.valid r = true := by unfold Utf8.valid; simp; omega
    rw [if_pos hv]
    omega
  rw [if_neg (by omega)]
  by_cases g1 : c < 0x800
  · rw [if_pos g1]
    exact ⟨fun _ => rfl, fun _ => show (2 : Nat) ≤ 3 by decide, show (2 : Nat) ≤ 2 by decide, show (2 : Nat) ≤ 4 by decide⟩
  · rw [if_neg g1]
    by_cases g2 : c < 0x10000
    · rw [if_pos g2]
      exact ⟨fun hr => absurd (h2 hr) (by omega), fun _ => show (3 : Nat) ≤ 3 by decide, show (2 : Nat) ≤ 3 by decide, show (3 : Nat) ≤ 4 by decide⟩
    · rw [if_neg g2]
      exact ⟨fun hr => absurd (h2 hr) (by omega), fun hr => absurd (h1 hr) (by omega), show (2 : Nat) ≤ 4 by decide, show (4 : Nat) ≤ 4 by decide⟩
/-- a text of two bytes or more that is not CR LF does not stand in CR LF -/
theorem index_hi (E : ByteArray) (h : 2 ≤ E.size) (hne : (([13, 10] : List UInt8) == E.toList) = false) : Lib.index [13, 10] E.data.toList = -1 :=
  Lib.long ⟨#[13, 10]⟩ E (by show 2 ≤ E.size; omega) (by
    apply Bool.eq_false_iff.2
    intro e
    rw [beq_iff_eq] at e
    rw [Bool.eq_false_iff] at hne
    exact hne (by rw [e, beq_iff_eq, Lib.toList_data]))
end Pl
namespace Mm
/-- the variable internal/bytealg.MaxLen holds some number, for good -/
def MaxI (w : World) : Prop := Stays (fun w => ∃ m, w.cell? ⟨6, 0, none⟩ = some (.int .i64 m)) w
theorem maxI_of {w : World} (h : ∃ m, w.cell? ⟨6, 0, none⟩ = some (.int .i64 m)) : MaxI w := fun _ hb => by
  obtain ⟨m, hm⟩ := h
  exact ⟨m, (hb.cell (p := ⟨6, 0, none⟩) (World.block_lt_of_cell? _ _ hm)).trans hm⟩
end Mm

set_option maxHeartbeats 8000000 in
theorem bindexAny_short (g o n c : Nat) (l : List UInt8) (w : World) (hn : n = l.length) (h1 : n ≠ 1) (h8 : n ≤ 8) (a : Option Addr) (hm : 0 < n → a = some ⟨g, o, none⟩ ∧ Mm.BytesAt w g o l) (hc : n ≤ c) (hU : Mm.U8 w) (hX : Mm.MaxI w) :
    Calls Tryd.prog 84 #[.slice a n c, .string ⟨#[13, 10]⟩] w fun e w' => (∃ k : Int, e = .returned (.int .i64 k) ∧ Pl.hitE l k) ∧ Below w.heap.size w w' := by
  have h8z : decide ((8 : Int) < (n : Int)) = false := decide_eq_false (by omega)
  have hn1 : ((n : Int) == 1) = false := beq_eq_false_iff_ne.2 (by omega)
  have HM := Pl.hid hm
  have HN := Pl.hid hn
  have HU := Pl.hid hU
  have HX := Pl.hid hX
  obtain ⟨m, hm0⟩ := HX.out.here
  have HMX := Pl.hid hm0
  clear hm hn hU hX hm0
  go_enter Tryd.func84, Tryd.ntmps84
  go_wp2_with (go_at_call 103; refine (bshould_walk _ _).mono ?_; rintro e w' ⟨rfl, rfl⟩; rw [h8z])
  go_loopw [12] (fun iv wr => ∃ i : Nat, iv = .int .i64 i ∧ i ≤ n ∧ Hid (Below w.heap.size w wr) ∧ Hid (Pl.noE l i)) (fun iv _ => n - (intOf iv).toNat)
  case atStart => exact ⟨0, rfl, Nat.zero_le _, Below.refl _ _, Pl.noE_zero l⟩
  case round =>
    obtain ⟨i, rfl, hi, HB, HNo⟩ := hrel
    rcases Nat.lt_or_ge i n with hlt | hge
    · obtain ⟨rfl, hm⟩ := HM.out (by omega)
      have HBY : Hid (∀ j, j < n → wr.cell? ⟨g, o + j, none⟩ = some (.int .u8 (Pl.at_ l j))) := fun j hj => (HB.out.cell (p := ⟨g, o + j, none⟩) (World.block_lt_of_cell? _ _ (hm j (by rw [← HN.out]; exact hj)))).trans (hm j (by rw [← HN.out]; exact hj))
      have hc0 := HBY.out i hlt
      clear hm
      obtain ⟨x, hx⟩ : ∃ x, l.getD i 0 = x := ⟨_, rfl⟩
      unfold Pl.at_ at hc0
      rw [hx] at hc0
      have HXX := Pl.hid hx
      clear hx
      by_cases ha : x.toNat < 128
      · rcases Pl.idx2 x with ⟨hx1, hx2⟩ | ⟨hx1, hx2⟩
        · obtain ⟨N, hN⟩ : ∃ N, N = Lib.indexByte [13, 10] x := ⟨_, rfl⟩
          rw [← hN] at hx2
          have HN2 := Pl.hid hN
          have HX1 := Pl.hid hx1
          clear hN hx1
          go_wp2_with fail
          (rw [run_callFunc_extern Tryd.func101 (by kernel_rfl) (by kernel_rfl) (by kernel_rfl) (e := Extern.BytealgIndexByte.indexByte) (by kernel_rfl), Lib.run_indexByteString]; simp only [Result.andThen]; rw [Oper.upon_value])
          rw [Lib.byte_back, ← HN2.out]
          go_wp2_with fail
          go_ret
          exact ⟨⟨_, rfl, .inr ⟨i, rfl, by rw [← HN.out]; exact hlt, HNo.out, by rw [HXX.out]; exact HX1.out⟩⟩, HB.out⟩
        · have HX1 := Pl.hid hx1
          have HX2 := Pl.hid hx2
          clear hx1 hx2
          have hlt1 : ¬ (0 : Int) ≤ -1 := by decide
          go_wp2_with fail
          (rw [run_callFunc_extern Tryd.func101 (by kernel_rfl) (by kernel_rfl) (by kernel_rfl) (e := Extern.BytealgIndexByte.indexByte) (by kernel_rfl), Lib.run_indexByteString]; simp only [Result.andThen]; rw [Oper.upon_value])
          rw [Lib.byte_back, HX2.out]
          go_wp2_with fail
          go_roundw
          case rel => exact ⟨i + 1, by go_num, hlt, HB.out, HNo.out.succ (by rw [HXX.out]; exact HX1.out)⟩
          case measure => simp [intOf]; omega
      · have hx256 : (x.toNat : Int) < 256 := by have := UInt8.toNat_lt x; omega
        have hn128 : ¬ ((x.toNat : Int) < 128) := by omega
        obtain ⟨s, hs⟩ : ∃ s, s = Pl.B (l.drop i) := ⟨_, rfl⟩
        have hsz : s.size = n - i := by rw [hs, Pl.B_size, List.length_drop, ← HN.out]
        have hget : ∀ j, j < n - i → s.get! j = l.getD (i + j) 0 := fun j hj => by
          rw [Pl.get_bang s j (by omega), hs, Pl.L_B, List.getD_eq_getElem?_getD, List.getElem?_drop, ← List.getD_eq_getElem?_getD]
        have hh : 128 ≤ (s.get! 0).toNat := by rw [hget 0 (by omega), Nat.add_zero, HXX.out]; omega
        have hg0 : s.get! 0 = s[0]'(by omega) := get_at s 0 (by omega)
        have hsp := Pl.dec_span s 0 (by omega) (by rw [← hg0]; exact hh)
        have hhi := decode_high s 0 (by omega) (by rw [← hg0]; exact hh)
        have hle := decode_le s 0
        have hdv := Pl.dec_val s (by omega) hh
        have hD := decodeRune_walk s g (o + i) (c - i) wr (HU.out.on HB.out) (fun j hj => by
          have := HBY.out (i + j) (by omega)
          rw [hget j (by omega), Nat.add_assoc]
          exact this)
        have hgo : Lib.decodeGo s = Utf8.decode s 0 := by unfold Lib.decodeGo; rw [if_neg (by omega)]
        rw [hgo, hsz] at hD
        obtain ⟨r, hr⟩ : ∃ r, r = (Utf8.decode s 0).1 := ⟨_, rfl⟩
        obtain ⟨d, hd⟩ : ∃ d, d = (Utf8.decode s 0).2 := ⟨_, rfl⟩
        rw [← hr, ← hd] at hD hdv hhi
        rw [← hd] at hsp
        rw [← hr] at hle
        have HNX : Hid (i + d ≤ n ∧ Pl.noE l (i + d)) := by
          refine ⟨by omega, fun j hj => ?_⟩
          rcases Nat.lt_or_ge j i with hji | hji
          · exact HNo.out j hji
          · have h1 := hsp.2 (j - i) (Nat.zero_le _) (by omega)
            rw [hget (j - i) (by omega), show i + (j - i) = j by omega] at h1
            exact Pl.hi_isEnd _ h1
        have hd1 := hhi.2
        have hr1 := hhi.1
        have HD := Pl.hid hD
        have HDV := Pl.hid hdv
        clear hD hdv hgo hr hd hs hsz hget hh hg0 hsp hhi
        have HHI : Hid (128 ≤ r) := hr1
        by_cases he : r = 65533
        · subst he
          clear hr1 hle
          go_wp2_with (go_at_call 106; refine HD.out.mono ?_; rintro e w2 ⟨rfl, hb2⟩; have HB2 := Pl.hid (HB.out.trans (hb2.mono HB.out.size)); clear hb2)
          go_loopg [15] 2 (fun g _ wx => ∃ k : Nat, k + g = 2 ∧ wx = w2.iter ⟨#[13, 10]⟩ k)
          case atStart => exact ⟨0, by omega, rfl⟩
          case round =>
            obtain ⟨k, hkg, rfl⟩ := hrel
            have hs2 : (⟨#[13, 10]⟩ : ByteArray).size = 2 := rfl
            cases gk with
            | zero =>
              obtain rfl : k = 2 := by omega
              have hnx := run_next_end (P := Tryd.prog) w2 ⟨#[13, 10]⟩ 2
              have hid := HNX.out.1
              go_wp2
              go_roundw
              case rel => exact ⟨i + d, by go_num, HNX.out.1, HB2.out.alloc HB2.out.size _, HNX.out.2⟩
              case measure => simp [intOf]; omega
            | succ g =>
              rcases (show k = 0 ∨ k = 1 by omega) with rfl | rfl
              · have hnx := fun ty => run_next_ascii (P := Tryd.prog) w2 ⟨#[13, 10]⟩ 0 ty (by decide) (by decide)
                go_wp2
                go_roundg g
                case measure => omega
                case rel => exact ⟨_, by omega, rfl⟩
              · have hnx := fun ty => run_next_ascii (P := Tryd.prog) w2 ⟨#[13, 10]⟩ 1 ty (by decide) (by decide)
                go_wp2
                go_roundg g
                case measure => omega
                case rel => exact ⟨_, by omega, rfl⟩
        · have hne : ((r : Int) != 65533) = true := bne_iff_ne.2 (by omega)
          obtain ⟨E, hE⟩ : ∃ E, E = Utf8.encode (r : Int) := ⟨_, rfl⟩
          obtain ⟨l1, l2, l3, l4⟩ := Pl.enc_len (r : Int) (by omega)
          rw [← hE] at l1 l2 l3 l4
          obtain ⟨ea, eb, et, hEl, heb, _⟩ := Pl.enc_hi (r : Int) (by omega)
          rw [← hE] at hEl
          have HE := Pl.hid hE
          clear hE
          have heq : (([13, 10] : List UInt8) == E.toList) = false := by
            apply Bool.eq_false_iff.2
            intro e
            rw [beq_iff_eq, Lib.toList_data, hEl] at e
            simp only [List.cons.injEq] at e
            obtain ⟨_, e2, e3⟩ := e
            have := heb e3.symm
            rw [← e2] at this
            exact absurd this (by decide)
          have HIX := Pl.hid (Pl.index_hi E l3 heq)
          clear hEl heb
          rcases HDV.out he with ⟨rfl, hr2⟩ | hd34
          · clear l1 l2 l3 l4 hle
            go_wp2_with (first | (go_at_call 106; refine HD.out.mono ?_; rintro e w2 ⟨rfl, hb2⟩; have HB2 := Pl.hid (HB.out.trans (hb2.mono HB.out.size)); clear hb2) | (refine Mm.wp_runestr _ rfl _ (by rfl) r E HE.out (by rfl) ?_))
            go_roundw
            case rel => have hid := HNX.out.1; exact ⟨i + 2, by go_num, HNX.out.1, HB2.out, HNX.out.2⟩
            case measure => have hid := HNX.out.1; simp [intOf]; omega
          · have hE3 : (E.size : Int) ≤ d ∧ 3 ≤ d ∧ d ≤ 4 := by
              rcases hd34 with ⟨rfl, h⟩ | rfl
              · exact ⟨by have := l2 (by omega); omega, by omega, by omega⟩
              · exact ⟨by omega, by omega, by omega⟩
            have hd2 : ((2 : Int) == (d : Int)) = false := beq_eq_false_iff_ne.2 (by omega)
            have HES : Hid (2 ≤ E.size ∧ (E.size : Int) ≤ d) := ⟨l3, hE3.1⟩
            have HD34 := Pl.hid hd34
            clear l1 l2 l3 l4 hE3 hd34
            by_cases hmd : (d : Int) ≤ m
            · clear hle heq
              go_wp2_with (first | (go_at_call 106; refine HD.out.mono ?_; rintro e w2 ⟨rfl, hb2⟩; have HB2 := Pl.hid (HB.out.trans (hb2.mono HB.out.size)); clear hb2; have hm2 := (HB2.out.cell (p := ⟨6, 0, none⟩) (World.block_lt_of_cell? _ _ HMX.out)).trans HMX.out) | (refine Mm.wp_runestr _ rfl _ (by rfl) r E HE.out (by rfl) ?_))
              rw [run_callFunc_extern Tryd.func107 (by kernel_rfl) (by kernel_rfl) (by kernel_rfl) (e := Extern.BytealgIndex.index) (by kernel_rfl), Lib.run_indexString ⟨#[13, 10]⟩ E _ 6 m (by kernel_rfl) hm2 HES.out.1 (Int.le_trans HES.out.2 hmd) (by decide)]
              simp only [Result.andThen]
              rw [Oper.upon_value]
              rw [HIX.out]
              clear hm2
              have hlt1 : ¬ (0 : Int) ≤ -1 := by decide
              have hid := HNX.out.1
              go_wp2_with fail
              go_roundw
              case rel => exact ⟨i + d, by go_num, HNX.out.1, HB2.out, HNX.out.2⟩
              case measure => simp [intOf]; omega
            · clear hle heq
              have hr13 : ((r : Int) == ((((⟨#[13, 10]⟩ : ByteArray)[0]'(by decide)).toNat : Nat) : Int)) = false := beq_eq_false_iff_ne.2 (by show ¬ (r : Int) = 13; omega)
              have hr10 : ((r : Int) == ((((⟨#[13, 10]⟩ : ByteArray)[1]'(by decide)).toNat : Nat) : Int)) = false := beq_eq_false_iff_ne.2 (by show ¬ (r : Int) = 10; omega)
              go_wp2_with (go_at_call 106; refine HD.out.mono ?_; rintro e w2 ⟨rfl, hb2⟩; have HB2 := Pl.hid (HB.out.trans (hb2.mono HB.out.size)); clear hb2; have hm2 := (HB2.out.cell (p := ⟨6, 0, none⟩) (World.block_lt_of_cell? _ _ HMX.out)).trans HMX.out)
              clear hm2
              go_loopg [15] 2 (fun g _ wx => ∃ k : Nat, k + g = 2 ∧ wx = w2.iter ⟨#[13, 10]⟩ k)
              case atStart => exact ⟨0, by omega, rfl⟩
              case round =>
                obtain ⟨k, hkg, rfl⟩ := hrel
                have hs2 : (⟨#[13, 10]⟩ : ByteArray).size = 2 := rfl
                cases gk with
                | zero =>
                  obtain rfl : k = 2 := by omega
                  have hnx := run_next_end (P := Tryd.prog) w2 ⟨#[13, 10]⟩ 2
                  have hid := HNX.out.1
                  go_wp2
                  go_roundw
                  case rel => exact ⟨i + d, by go_num, HNX.out.1, HB2.out.alloc HB2.out.size _, HNX.out.2⟩
                  case measure => simp [intOf]; omega
                | succ g =>
                  rcases (show k = 0 ∨ k = 1 by omega) with rfl | rfl
                  · have hnx := fun ty => run_next_ascii (P := Tryd.prog) w2 ⟨#[13, 10]⟩ 0 ty (by decide) (by decide)
                    go_wp2
                    go_roundg g
                    case measure => omega
                    case rel => exact ⟨_, by omega, rfl⟩
                  · have hnx := fun ty => run_next_ascii (P := Tryd.prog) w2 ⟨#[13, 10]⟩ 1 ty (by decide) (by decide)
                    go_wp2
                    go_roundg g
                    case measure => omega
                    case rel => exact ⟨_, by omega, rfl⟩
    · obtain rfl : i = n := by omega
      go_wp2_with fail
      go_ret
      exact ⟨⟨_, rfl, .inl ⟨Pl.noE_all HNo.out (by rw [← HN.out]; exact Nat.le_refl _), rfl⟩⟩, HB.out⟩
end Go.Proofs.YtakldjdohgmeiaaDoor
