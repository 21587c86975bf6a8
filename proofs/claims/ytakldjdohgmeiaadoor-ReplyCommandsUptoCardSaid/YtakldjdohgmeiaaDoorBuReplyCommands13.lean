/- What is read from the left of bytes: what was read is right, and is written as the bytes that were read; broken off it is too short; plain Lean. Conditions stand in each law. reply's reader: a reply within so many arrays. Conditions stand in each law. reply.Decode of any bytes. Conditions stand in each law. pantrylaw16.alike, pantrylaw16.alike: the same tree is told to be the same. Condition: both read. reply's Encode of any reply. Conditions stand in each law. Conditions stand in each law. -/
import Derived.Test.YtakldjdohgmeiaaDoorBuReplyCommands12
import Derived.Test.YtakldjdohgmeiaaDoorBuReplyCommands4
import Derived.BigRegion
import Derived.Deep.RegionLaw
import Derived.Test.YtakldjdohgmeiaaDoorBuReplyCommands11
namespace Go.Proofs.YtakldjdohgmeiaaDoor
open Go.RowKit
set_option maxRecDepth 20000

namespace RT
open Pl
theorem rI_back {l : List UInt8} (h : rIc l = 0) : Lib.itoa (rIv l) = l := by
  unfold rIc rIv at *
  cases hr : rI l with
  | none => rw [hr] at h; exact absurd h (by decide)
  | some m => exact itoa_rI hr
theorem kd_cases (f : UInt8) : (f = 43 ∧ kd f = 1) ∨ (f = 45 ∧ kd f = 2) ∨ (f = 58 ∧ kd f = 3) ∨ (f = 36 ∧ kd f = 4) ∨ (f = 42 ∧ kd f = 5) ∨ kd f = 0 := by
  unfold kd
  by_cases h1 : f = 43
  · exact .inl ⟨h1, if_pos h1⟩
  · rw [if_neg h1]
    by_cases h2 : f = 45
    · exact .inr (.inl ⟨h2, if_pos h2⟩)
    · rw [if_neg h2]
      by_cases h3 : f = 58
      · exact .inr (.inr (.inl ⟨h3, if_pos h3⟩))
      · rw [if_neg h3]
        by_cases h4 : f = 36
        · exact .inr (.inr (.inr (.inl ⟨h4, if_pos h4⟩)))
        · rw [if_neg h4]
          by_cases h5 : f = 42
          · exact .inr (.inr (.inr (.inr (.inl ⟨h5, if_pos h5⟩))))
          · rw [if_neg h5]
            exact .inr (.inr (.inr (.inr (.inr rfl))))
theorem bulkR_back {n : Nat} {l : List UInt8} (h : (bulkR n l).1 = 0) : l = (bulkR n l).2.1 ++ 13 :: 10 :: (bulkR n l).2.2 ∧ (bulkR n l).2.1.length = n := by
  unfold bulkR at *
  by_cases h1 : l.length < n + 2
  · rw [if_pos h1] at h
    exact absurd h (by decide)
  · rw [if_neg h1] at h ⊢
    by_cases h2 : slc l n (n + 2) = [13, 10]
    · rw [if_pos h2]
      refine ⟨?_, by simp; omega⟩
      unfold slc at h2
      rw [show n + 2 - n = 2 by omega] at h2
      have e : l = l.take n ++ ((l.drop n).take 2 ++ (l.drop n).drop 2) := by rw [List.take_append_drop, List.take_append_drop]
      rw [h2, List.drop_drop] at e
      simpa using e
    · rw [if_neg h2] at h
      exact absurd h (by decide)
/-- what a first line tells, where it is a whole reply -/
theorem hd_one {l r : List UInt8} {t : RT} (h : hdR l = .one t r) : t.ok = true ∧ t.In ∧ t.depth = 0 ∧ l = t.enc ++ r := by
  cases l with
  | nil => cases h
  | cons f l =>
    have hno : ∀ t' : RT, t' ∈ ([] : List RT) → In t' := fun t' ht' => by cases ht'
    have h0 : In64 0 := by unfold In64; omega
    rw [hdR] at h
    by_cases h1 : kd f = 0
    · rw [if_pos h1] at h; cases h
    rw [if_neg h1] at h
    by_cases h2 : (lineR l).1 ≠ 0
    · rw [if_pos h2] at h; cases h
    rw [if_neg h2] at h
    obtain ⟨hl1, hl2⟩ := line_back (l := l) (by simpa using h2)
    by_cases h3 : kd f ≤ 2
    · rw [if_pos h3] at h
      injection h with e1 e2
      subst e1
      subst e2
      rcases kd_cases f with ⟨rfl, hk⟩ | ⟨rfl, hk⟩ | ⟨rfl, hk⟩ | ⟨rfl, hk⟩ | ⟨rfl, hk⟩ | hk
      · rw [hk]
        refine ⟨?_, .mk _ _ _ _ h0 hno, by simp [depth], ?_⟩
        · simp [ok, okL, okHead, L_B, hl1]
        · conv => lhs; rw [hl2]
          simp [enc, encH, encL, crlf, L_B]
      · rw [hk]
        refine ⟨?_, .mk _ _ _ _ h0 hno, by simp [depth], ?_⟩
        · simp [ok, okL, okHead, L_B, hl1]
        · conv => lhs; rw [hl2]
          simp [enc, encH, encL, crlf, L_B]
      all_goals omega
    · rw [if_neg h3] at h
      by_cases h4 : rIc (lineR l).2.1 ≠ 0 ∨ (3 < kd f ∧ rIv (lineR l).2.1 < -1)
      · rw [if_pos h4] at h; cases h
      rw [if_neg h4] at h
      have hc : rIc (lineR l).2.1 = 0 := by
        by_cases hc : rIc (lineR l).2.1 = 0
        · exact hc
        · exact absurd (.inl hc) h4
      have hb := rI_back hc
      have hin := rIv_in (lineR l).2.1
      obtain ⟨v, hv⟩ : ∃ v, v = rIv (lineR l).2.1 := ⟨_, rfl⟩
      rw [← hv] at h hb hin h4
      unfold numR at h
      have hl3 : f :: l = f :: (Lib.itoa v ++ 13 :: 10 :: (lineR l).2.2) := by
        rw [hb, ← hl2]
      rcases kd_cases f with ⟨rfl, hk⟩ | ⟨rfl, hk⟩ | ⟨rfl, hk⟩ | ⟨rfl, hk⟩ | ⟨rfl, hk⟩ | hk
      · omega
      · omega
      · rw [if_pos hk] at h
        injection h with e1 e2
        subst e1
        subst e2
        refine ⟨?_, .mk _ _ _ _ hin hno, by simp [depth], ?_⟩
        · have e0 : (⟨#[]⟩ : ByteArray).size = 0 := rfl
          simp [ok, okL, okHead, e0]
        · rw [hl3]
          simp [enc, encH, encL, crlf]
      · rw [if_neg (by omega)] at h
        by_cases h5 : v = -1
        · rw [if_pos h5, if_pos hk] at h
          injection h with e1 e2
          subst e1
          subst e2
          refine ⟨?_, .mk _ _ _ _ h0 hno, by simp [depth], ?_⟩
          · have e0 : (⟨#[]⟩ : ByteArray).size = 0 := rfl
            simp [ok, okL, okHead, e0]
          · rw [hl3, h5, show Lib.itoa (-1) = [45, 49] by decide +kernel]
            simp [enc, encH, encL]
        · rw [if_neg h5] at h
          by_cases h6 : 16777216 < v
          · rw [if_pos h6] at h; cases h
          rw [if_neg h6, if_pos hk] at h
          by_cases h7 : (bulkR v.toNat (lineR l).2.2).1 = 0
          · rw [if_pos h7] at h
            injection h with e1 e2
            subst e1
            subst e2
            obtain ⟨b1, b2⟩ := bulkR_back h7
            generalize bulkR v.toNat (lineR l).2.2 = q at b1 b2 h7 ⊢
            refine ⟨?_, .mk _ _ _ _ h0 hno, by simp [depth], ?_⟩
            · simp [ok, okL, okHead]
            · have hv0 : 0 ≤ v := by
                by_cases hvn : v < -1
                · exact absurd (.inr ⟨by omega, hvn⟩) h4
                · omega
              rw [hl3, itoa_pos hv0, ← b2]
              conv => lhs; rw [b1]
              simp [enc, encH, encL, bulkE, crlf, L_B]
          · rw [if_neg h7] at h; cases h
      · rw [if_neg (by omega)] at h
        by_cases h5 : v = -1
        · rw [if_pos h5, if_neg (by omega)] at h
          injection h with e1 e2
          subst e1
          subst e2
          refine ⟨?_, .mk _ _ _ _ h0 hno, by simp [depth], ?_⟩
          · have e0 : (⟨#[]⟩ : ByteArray).size = 0 := rfl
            simp [ok, okL, okHead, e0]
          · rw [hl3, h5, show Lib.itoa (-1) = [45, 49] by decide +kernel]
            simp [enc, encH, encL]
        · rw [if_neg h5] at h
          by_cases h6 : 16777216 < v
          · rw [if_pos h6] at h; cases h
          rw [if_neg h6, if_neg (by omega)] at h
          cases h
      · exact absurd hk h1
/-- what a first line tells, where it is an array's -/
theorem hd_arr {l r : List UInt8} {n : Nat} (h : hdR l = .arr n r) : n ≤ 16777216 ∧ l = encH 6 ⟨#[]⟩ 0 n ++ r := by
  cases l with
  | nil => cases h
  | cons f l =>
    rw [hdR] at h
    by_cases h1 : kd f = 0
    · rw [if_pos h1] at h; cases h
    rw [if_neg h1] at h
    by_cases h2 : (lineR l).1 ≠ 0
    · rw [if_pos h2] at h; cases h
    rw [if_neg h2] at h
    obtain ⟨hl1, hl2⟩ := line_back (l := l) (by simpa using h2)
    by_cases h3 : kd f ≤ 2
    · rw [if_pos h3] at h; cases h
    rw [if_neg h3] at h
    by_cases h4 : rIc (lineR l).2.1 ≠ 0 ∨ (3 < kd f ∧ rIv (lineR l).2.1 < -1)
    · rw [if_pos h4] at h; cases h
    rw [if_neg h4] at h
    have hc : rIc (lineR l).2.1 = 0 := by
      by_cases hc : rIc (lineR l).2.1 = 0
      · exact hc
      · exact absurd (.inl hc) h4
    have hb := rI_back hc
    obtain ⟨v, hv⟩ : ∃ v, v = rIv (lineR l).2.1 := ⟨_, rfl⟩
    rw [← hv] at h hb h4
    unfold numR at h
    have hl3 : f :: l = f :: (Lib.itoa v ++ 13 :: 10 :: (lineR l).2.2) := by
      rw [hb, ← hl2]
    by_cases h5 : kd f = 3
    · rw [if_pos h5] at h; cases h
    rw [if_neg h5] at h
    by_cases h6 : v = -1
    · rw [if_pos h6] at h; cases h
    rw [if_neg h6] at h
    by_cases h7 : 16777216 < v
    · rw [if_pos h7] at h; cases h
    rw [if_neg h7] at h
    by_cases h8 : kd f = 4
    · rw [if_pos h8] at h
      by_cases h9 : (bulkR v.toNat (lineR l).2.2).1 = 0
      · rw [if_pos h9] at h; cases h
      · rw [if_neg h9] at h; cases h
    rw [if_neg h8] at h
    injection h with e1 e2
    subst e1
    subst e2
    have hv0 : 0 ≤ v := by
      by_cases hvn : v < -1
      · exact absurd (.inr ⟨by rcases kd_cases f with ⟨_, hk⟩ | ⟨_, hk⟩ | ⟨_, hk⟩ | ⟨_, hk⟩ | ⟨_, hk⟩ | hk <;> omega, hvn⟩) h4
      · omega
    refine ⟨by omega, ?_⟩
    have hf : f = 42 := by rcases kd_cases f with ⟨_, hk⟩ | ⟨_, hk⟩ | ⟨_, hk⟩ | ⟨_, hk⟩ | ⟨h, hk⟩ | hk <;> first | exact h | omega
    rw [hl3, itoa_pos hv0, hf]
    simp [encH, crlf]
theorem decN_back {f : List UInt8 → Int × RT × List UInt8} {d : Nat} (hf : ∀ l t r, f l = (0, t, r) → t.ok = true ∧ t.In ∧ t.depth ≤ d ∧ l = t.enc ++ r) :
    ∀ (n : Nat) (ts : List RT) (l : List UInt8) (ts' : List RT) (r : List UInt8), decN f n ts l = (0, ts', r) →
      ∃ us, ts' = ts ++ us ∧ us.length = n ∧ okL us = true ∧ (∀ t ∈ us, t.In) ∧ depthL us ≤ d ∧ l = encL us ++ r
  | 0, ts, l, ts', r, h => by
    simp only [decN, Prod.mk.injEq, true_and] at h
    obtain ⟨rfl, rfl⟩ := h
    exact ⟨[], by simp, rfl, by simp [okL], fun t ht => (by cases ht), by simp [depthL], by simp [encL]⟩
  | n + 1, ts, l, ts', r, h => by
    simp only [decN] at h
    by_cases h1 : (f l).1 = 0
    · rw [if_pos h1] at h
      obtain ⟨a1, a2, a3, a4⟩ := hf l (f l).2.1 (f l).2.2 (by rw [← h1])
      obtain ⟨us, b1, b2, b3, b4, b5, b6⟩ := decN_back hf n _ _ ts' r h
      refine ⟨(f l).2.1 :: us, by rw [b1]; simp, by simp [b2], by simp [okL, a1, b3], fun t ht => ?_, by simp only [depthL]; omega, ?_⟩
      · rcases List.mem_cons.1 ht with rfl | ht
        · exact a2
        · exact b4 t ht
      · conv => lhs; rw [a4, b6]
        simp [encL]
    · rw [if_neg h1] at h
      simp only [Prod.mk.injEq] at h
      exact absurd h.1 h1
/-- back: what is read is right, and its bytes are those that were read -/
theorem dec_back : ∀ (d : Nat) (l : List UInt8) (t : RT) (r : List UInt8), decR d l = (0, t, r) → t.ok = true ∧ t.In ∧ t.depth ≤ d ∧ l = t.enc ++ r := by
  intro d
  induction d with
  | zero =>
    intro l t r h
    cases hh : hdR l with
    | bad c =>
      rw [decR_bad hh] at h
      simp only [Prod.mk.injEq] at h
      have h2 := h.2.1
      exfalso
      have := h.1
      subst this
      exact hd_bad0 hh
    | one t' r' =>
      rw [decR_one hh] at h
      simp only [Prod.mk.injEq, true_and] at h
      obtain ⟨rfl, rfl⟩ := h
      obtain ⟨a, b, c, e⟩ := hd_one hh
      exact ⟨a, b, by omega, e⟩
    | arr n r' =>
      rw [decR_deep hh] at h
      simp only [Prod.mk.injEq] at h
      exact absurd h.1 (by decide)
  | succ d ih =>
    intro l t r h
    cases hh : hdR l with
    | bad c =>
      rw [decR_bad hh] at h
      simp only [Prod.mk.injEq] at h
      exfalso
      have := h.1
      subst this
      exact hd_bad0 hh
    | one t' r' =>
      rw [decR_one hh] at h
      simp only [Prod.mk.injEq, true_and] at h
      obtain ⟨rfl, rfl⟩ := h
      obtain ⟨a, b, c, e⟩ := hd_one hh
      exact ⟨a, b, by omega, e⟩
    | arr n r' =>
      rw [decR_arr hh] at h
      obtain ⟨hn, hl⟩ := hd_arr hh
      unfold arrR at h
      by_cases h1 : (decN (decR d) n [] r').1 = 0
      · rw [if_pos h1] at h
        simp only [Prod.mk.injEq, true_and] at h
        obtain ⟨rfl, rfl⟩ := h
        obtain ⟨us, b1, b2, b3, b4, b5, b6⟩ := decN_back ih n [] r' _ _ (by rw [← h1])
        rw [List.nil_append] at b1
        rw [b1]
        have e0 : (⟨#[]⟩ : ByteArray).size = 0 := rfl
        refine ⟨by simp [ok, okHead, e0, b3], .mk _ _ _ _ (by unfold In64; omega) b4, by rw [depth_mk, if_pos rfl]; omega, ?_⟩
        rw [hl, enc_mk, b2, List.append_assoc, ← b6]
      · rw [if_neg h1] at h
        simp only [Prod.mk.injEq] at h
        exact absurd h.1 h1
where
  hd_bad0 {l : List UInt8} (h : hdR l = .bad 0) : False := by
    cases l with
    | nil => cases h
    | cons f l =>
      rw [hdR] at h
      unfold numR at h
      repeat' split at h
      all_goals first | (cases h; done) | (injection h with h; omega) | skip
end RT
end Go.Proofs.YtakldjdohgmeiaaDoor

namespace Go.Proofs.YtakldjdohgmeiaaDoor
open Go.RowKit
set_option maxRecDepth 20000

namespace Mm
open Pl
/-- where the walk stands: the result's cells, the reader's cell -/
def StZ (w wk : World) (p r : Nat) : Prop := w.grownBy wk (some p) ∧ wk.heap[r]? = some (.cells #[.int .i64 0, .string ⟨#[]⟩, .int .i64 0, .slice none 0 0] 31 (0, 0)) ∧ r = w.heap.size ∧ p < w.heap.size
def StD (W w wk : World) (p r : Nat) (v : Value) (l : List UInt8) : Prop := StZ w wk p r ∧ wk.heap[p]? = some (.cells #[v] 79 (0, 0)) ∧ Bs W v l
theorem StZ.fin {w wk wf : World} {p r : Nat} (h : StZ w wk p r) (hg : wk.grownBy wf (some r)) : w.grownBy wf (some p) :=
  grown_step h.1 hg (fun k hk => by injection hk with hk; right; rw [← hk, h.2.2.1]; exact Nat.le_refl _)
theorem StD.fin {W w wk wf : World} {p r : Nat} {v : Value} {l : List UInt8} (h : StD W w wk p r v l) (hg : wk.grownBy wf (some r)) : Rd W wf p l :=
  ⟨v, (hg.block p (Nat.lt_of_lt_of_le h.1.2.2.2 h.1.1.size) (fun e => by injection e with e; have := h.1.2.2; omega)).trans h.2.1, h.2.2⟩
theorem StZ.base {W w wk : World} {p r : Nat} (h : StZ w wk p r) (hw : Below W.heap.size W w) (hp : W.heap.size ≤ p) : Below W.heap.size W wk :=
  hw.grown h.1 hw.size (fun k hk => by injection hk with hk; omega)
theorem StZ.rlt {w wk : World} {p r : Nat} (h : StZ w wk p r) : r < wk.heap.size ∧ p < wk.heap.size := ⟨(Array.getElem?_eq_some_iff.1 h.2.1).1, Nat.lt_of_lt_of_le h.2.2.2 h.1.size⟩
theorem StZ.below {w wk w' : World} {p r : Nat} (h : StZ w wk p r) (hb : Below wk.heap.size wk w') : StZ w w' p r :=
  ⟨grown_low h.1 hb h.1.size, (hb.block r h.rlt.1).trans h.2.1, h.2.2⟩
theorem StD.below {W w wk w' : World} {p r : Nat} {v : Value} {l : List UInt8} (h : StD W w wk p r v l) (hb : Below wk.heap.size wk w') : StD W w w' p r v l :=
  ⟨h.1.below hb, (hb.block p h.1.rlt.2).trans h.2.1, h.2.2⟩
theorem StZ.grown {w wk w' : World} {p r : Nat} (h : StZ w wk p r) (hg : wk.grownBy w' (some p)) : StZ w w' p r :=
  ⟨grown_step h.1 hg (fun k hk => .inl hk.symm), (hg.block r h.rlt.1 (fun e => by injection e with e; have := h.2.2; omega)).trans h.2.1, h.2.2⟩
theorem StZ.rd {W w wk : World} {p r : Nat} {l : List UInt8} (h : StZ w wk p r) (hr : Rd W wk p l) : ∃ v, StD W w wk p r v l := by
  obtain ⟨v, h1, h2⟩ := hr
  exact ⟨v, h, h1, h2⟩
theorem OwnL.keepAt {w w' : World} {lo : Nat} {v : Value} {ts : List RT} (h : OwnL w lo v ts) (hb : ∀ g, lo ≤ g → g < w.heap.size → w'.heap[g]? = w.heap[g]?) : OwnL w' lo v ts := h.keepLo hb
theorem StZ.lowB {w wk w' : World} {p r B : Nat} (h : StZ w wk p r) (hb : Below B wk w') (hr : r < B) : StZ w w' p r :=
  ⟨grown_low h.1 hb (by have := h.2.2; omega), (hb.block r hr).trans h.2.1, h.2.2⟩
theorem StD.lowB {W w wk w' : World} {p r B : Nat} {v : Value} {l : List UInt8} (h : StD W w wk p r v l) (hb : Below B wk w') (hr : r < B) : StD W w w' p r v l :=
  ⟨h.1.lowB hb hr, (hb.block p (by have := h.1.2.2; omega)).trans h.2.1, h.2.2⟩
theorem StD.other {W w wk w' : World} {p r x : Nat} {v : Value} {l : List UInt8} (h : StD W w wk p r v l) (hg : wk.grownBy w' (some x)) (hx : r < x) : StD W w w' p r v l :=
  ⟨⟨grown_step h.1.1 hg (fun k hk => by injection hk with hk; right; have := h.1.2.2; omega), (hg.block r h.1.rlt.1 (fun e => by injection e with e; omega)).trans h.1.2.1, h.1.2.2⟩,
   (hg.block p h.1.rlt.2 (fun e => by injection e with e; have := h.1.2.2; omega)).trans h.2.1, h.2.2⟩
/-- a world like the later one below the earlier one's size -/
theorem trunc {wr w5 : World} {p : Nat} (h : wr.grownBy w5 (some p)) : ∃ w0 : World, w0.heap.size = wr.heap.size ∧ (∀ g, g < wr.heap.size → g ≠ p → w0.heap[g]? = wr.heap[g]?) ∧ Below w0.heap.size w0 w5 := by
  have hs : (w5.heap.extract 0 wr.heap.size).size = wr.heap.size := by
    rw [Array.size_extract]
    have := h.size
    omega
  have hg : ∀ g, g < wr.heap.size → (w5.heap.extract 0 wr.heap.size)[g]? = w5.heap[g]? := fun g hlt => by
    rw [Array.getElem?_extract]
    have := h.size
    rw [if_pos (by omega), Nat.zero_add]
  refine ⟨{ w5 with heap := w5.heap.extract 0 wr.heap.size }, hs, fun g hlt hne => (hg g hlt).trans (h.block g hlt (fun e => hne (by injection e))), ⟨rfl, rfl, rfl, ?_, fun g hlt => ?_⟩⟩
  · show (w5.heap.extract 0 wr.heap.size).size ≤ _
    rw [hs]
    exact h.size
  · have hlt' : g < (w5.heap.extract 0 wr.heap.size).size := hlt
    exact (hg g (by rw [← hs]; exact hlt')).symm
end Mm

namespace RT
theorem arrR_bad {c : Int} (h : c ≠ 0) : arrR (c, [], []) = (c, nul, []) := by unfold arrR; rw [if_neg h]
theorem arrR_ok (ts : List RT) (r : List UInt8) : arrR (0, ts, r) = (0, .mk 6 ⟨#[]⟩ 0 ts, r) := by unfold arrR; rw [if_pos rfl]
theorem dec_len {d : Nat} {l : List UInt8} (h : (decR d l).1 = 0) : (decR d l).2.2.length ≤ l.length := by
  obtain ⟨_, _, _, e⟩ := dec_back d l (decR d l).2.1 (decR d l).2.2 (by rw [← h])
  have := congrArg List.length e
  rw [List.length_append] at this
  omega
end RT
namespace RT
open Pl
theorem num3 (v : Int) (r : List UInt8) : numR 3 v r = .one (.mk 3 ⟨#[]⟩ v []) r := by unfold numR; rw [if_pos rfl]
theorem num4n (r : List UInt8) : numR 4 (-1) r = .one (.mk 5 ⟨#[]⟩ 0 []) r := by simp [numR]
theorem num5n (r : List UInt8) : numR 5 (-1) r = .one (.mk 7 ⟨#[]⟩ 0 []) r := by simp [numR]
theorem numL {k v : Int} (r : List UInt8) (hk : k ≠ 3) (hv : 16777216 < v) : numR k v r = .bad 2 := by unfold numR; rw [if_neg hk, if_neg (by omega), if_pos hv]
theorem num4 {k : Nat} (r : List UInt8) (hk : k ≤ 16777216) : numR 4 (k : Int) r = if (bulkR k r).1 = 0 then .one (.mk 4 (B (bulkR k r).2.1) 0 []) (bulkR k r).2.2 else .bad (bulkR k r).1 := by
  unfold numR; rw [if_neg (by decide), if_neg (by omega), if_neg (by omega), if_pos rfl, Int.toNat_natCast]
theorem num5 {k : Nat} (r : List UInt8) (hk : k ≤ 16777216) : numR 5 (k : Int) r = .arr k r := by
  unfold numR; rw [if_neg (by decide), if_neg (by omega), if_neg (by omega), if_neg (by decide), Int.toNat_natCast]
end RT

set_option maxHeartbeats 16000000 in
theorem rreply_step (W : World) (p d : Nat) (hd : d ≤ 8) (hp : W.heap.size ≤ p) (hU : Mm.U8 W) (hX : Mm.MaxI W) (hE : Mm.Errs W) (IH : ∀ d', d = d' + 1 → Mm.ReadC W p d') : Mm.ReadC W p d := by
  intro l v hv hl w hw hr
  obtain ⟨q, hq⟩ : ∃ q, q = RT.decR d l := ⟨_, rfl⟩
  rw [← hq]
  obtain ⟨D, hD⟩ : ∃ D : Int, D = 8 - (d : Int) := ⟨_, rfl⟩
  rw [← hD]
  have hDr : 0 ≤ D ∧ D ≤ 8 := by omega
  have HDD := Pl.hid hD
  clear hD
  obtain ⟨a, c, rfl⟩ : ∃ a c, v = .slice a l.length c := by obtain ⟨a, c, h, _⟩ := hv; exact ⟨a, c, h⟩
  have HQ := Pl.hid hq
  have HV := Pl.hid hv
  have HW := Pl.hid hw
  have HR := Pl.hid hr
  have HU := Pl.hid hU
  have HX := Pl.hid hX
  have HE := Pl.hid hE
  have HIH := Pl.hid IH
  have HP := Pl.hid hp
  have HPL : Hid (p < w.heap.size) := (Array.getElem?_eq_some_iff.1 hr).1
  obtain ⟨N, hN⟩ : ∃ N, N = l.length := ⟨_, rfl⟩
  rw [← hN] at HV HR hl
  have HN := Pl.hid hN
  clear hq hv hw hr hU hX hE IH hp hN
  obtain ⟨w1, hw1⟩ : ∃ w1, w.alloc (.cells #[.int .i64 0, .string ⟨#[]⟩, .int .i64 0, .slice none 0 0] 31) = w1 := ⟨_, rfl⟩
  obtain ⟨r, hr⟩ : ∃ r, w.heap.size = r := ⟨_, rfl⟩
  have S1 : Hid (Mm.StD W w w1 p r (.slice a N c) l) := by
    refine ⟨⟨?_, ?_, hr.symm, HPL.out⟩, ?_, HV.out⟩
    · rw [← hw1]; exact Mm.grown_below ((Below.refl _ _).alloc (Nat.le_refl _) _)
    · rw [← hw1, ← hr]; exact heap_alloc_new w _
    · rw [← hw1]; exact (((Below.refl w.heap.size w).alloc (Nat.le_refl _) _).block p HPL.out).trans HR.out
  have k1 := Mm.cell_of S1.out.2.1 (i := 0) rfl
  cases l with
  | nil =>
    have hN0 : N = 0 := HN.out
    subst hN0
    obtain rfl := HQ.out.trans (RT.decR_bad (c := 5) rfl d)
    go_enter Tryd.func52, Tryd.ntmps52
    go_wp2_with (refine Mm.wp_store4 _ rfl _ _ rfl r _ _ _ _ _ _ S1.out.1.2.1 rfl rfl rfl Mm.leaf_one ?_; intro wf hwf hsf hgf; clear hsf; have HWF := Pl.hid hwf; have HGF := Pl.hid hgf; clear hwf hgf)
    refine bodyPost_ret (Mm.res_cell_tmp rfl _ wf r _ _ _ _ _ _ rfl HWF.out) rfl ?_
    exact ⟨_, _, _, _, rfl, Mm.zero_own _ _, Mm.DecP.bad (S1.out.fin HGF.out) (by decide), S1.out.1.fin HGF.out⟩
  | cons f l' =>
    have hN1 : 1 ≤ N := by rw [HN.out]; simp
    have hN0 : ((N : Int) == 0) = false := beq_eq_false_iff_ne.2 (by omega)
    obtain ⟨g, o, c', he, hc', hm⟩ := HV.out.some (by simp)
    injection he with e1 e2 e3
    subst e1 e3
    have c0 := (hm 0 (by simp))
    have HB1 := Pl.hid (S1.out.1.base HW.out HP.out)
    have d0 := (HB1.out.cell (p := ⟨g, o + 0, none⟩) (World.block_lt_of_cell? _ _ c0)).trans c0
    rw [show Pl.at_ (f :: l') 0 = (f.toNat : Int) from rfl, Nat.add_zero] at d0
    clear c0 hm hc' e2
    obtain ⟨M, hM⟩ : ∃ M, M = l'.length := ⟨_, rfl⟩
    have HM := Pl.hid hM
    have HBSL : Hid (∀ v1, v1 = sliced (some ⟨g, o, none⟩) 1 N c 1 → ∃ a1 c1, v1 = .slice a1 M c1 ∧ Hid (Mm.Bs W v1 l')) := fun v1 h1 => by
      have hb := Mm.bs_sliced (s := [f]) (r := l') (k := 1) (show Mm.Bs W (.slice (some ⟨g, o, none⟩) N c) ([f] ++ l') from HV.out) rfl
      rw [← h1] at hb
      obtain ⟨a1, c1, he, _⟩ := id hb
      exact ⟨a1, c1, by rw [he, HM.out], hb⟩
    clear hM
    obtain ⟨J, hJ⟩ : ∃ J, J = RT.kd f - 1 := ⟨_, rfl⟩
    have HJ : Hid (RT.kd f = J + 1) := by show _ = _; omega
    have hJr : -1 ≤ J ∧ J ≤ 4 := by have := RT.kd_range f; omega
    have h36 := RT.kd36 f
    rw [HJ.out] at h36
    have HKI : Hid (Lib.indexByte (⟨#[43, 45, 58, 36, 42]⟩ : ByteArray).data.toList ((f.toNat : Int)).toNat.toUInt8 = J) := by
      show _ = _
      rw [Lib.byte_back, show (⟨#[43, 45, 58, 36, 42]⟩ : ByteArray).data.toList = [43, 45, 58, 36, 42] from rfl, RT.kdx, hJ]
    clear hJ
    by_cases hK0 : J = -1
    · subst hK0
      obtain rfl := HQ.out.trans (RT.decR_bad (RT.hd0 (by rw [HJ.out]; rfl)) d)
      go_enter Tryd.func52, Tryd.ntmps52
      go_wp2_with (first | (go_at_call 64; refine (Tryd.strings_IndexByte _ _ _).mono ?_; rintro e w' ⟨rfl, hw'⟩; rw [hw', HKI.out]; clear hw') | (refine Mm.wp_store4 _ rfl _ _ rfl r _ _ _ _ _ _ S1.out.1.2.1 rfl rfl rfl Mm.leaf_one ?_; intro wf hwf hsf hgf; clear hsf; have HWF := Pl.hid hwf; have HGF := Pl.hid hgf; clear hwf hgf))
      refine bodyPost_ret (Mm.res_cell_tmp rfl _ wf r _ _ _ _ _ _ rfl HWF.out) rfl ?_
      exact ⟨_, _, _, _, rfl, Mm.zero_own _ _, Mm.DecP.bad (S1.out.fin HGF.out) (by decide), S1.out.1.fin HGF.out⟩
    · have hJ0 : ((J + 1 : Int) == 0) = false := beq_eq_false_iff_ne.2 (by omega)
      have hfz := Mm.frozen_of (i := 0) S1.out.2.1
      go_enter Tryd.func52, Tryd.ntmps52
      go_wp2_with (first | (go_at_call 64; refine (Tryd.strings_IndexByte _ _ _).mono ?_; rintro e w' ⟨rfl, hw'⟩; rw [hw', HKI.out]; clear hw') | (refine Mm.wp_sliceL w1 rfl _ _ rfl (some ⟨g, o, none⟩) N c 1 (by rfl) (by rfl) hN1 ?_; intro v1 hv1; obtain ⟨a1, c1, rfl, HBS⟩ := HBSL.out v1 hv1; clear hv1))
      generalize hw2 : World.setCell w1 _ _ = w2
      have S2 : Hid (Mm.StD W w w2 p r (.slice a1 M c1) l') := by
        have hs1 := S1.out
        refine ⟨hs1.1.grown (by rw [← hw2]; exact Mm.grown_set _ _ _ _), ?_, HBS.out⟩
        rw [← hw2]
        exact Mm.heap_set hs1.2.1 0 _
      clear hw2 hfz d0
      refine (rline_walk W p _ l' S2.out.2.2 (by have := HN.out; simp only [List.length_cons] at this; omega) HU.out HX.out w2 (S2.out.1.base HW.out HP.out) HP.out S2.out.2.1).mono ?_
      rintro e w3 ⟨rfl, hl3, hg3⟩
      have HL3 := Pl.hid hl3
      have S3 := Pl.hid (S2.out.1.grown hg3)
      obtain ⟨z3, hz3⟩ := hl3.1
      obtain ⟨y3, hy3⟩ := S3.out.rd hz3
      have Z3 := Pl.hid hy3
      clear hl3 hg3 hz3 hy3
      obtain ⟨cd, hcd⟩ : ∃ cd, cd = (Pl.lineR l').1 := ⟨_, rfl⟩
      obtain ⟨tx, htx⟩ : ∃ tx, tx = (Pl.lineR l').2.1 := ⟨_, rfl⟩
      obtain ⟨rs, hrs⟩ : ∃ rs, rs = (Pl.lineR l').2.2 := ⟨_, rfl⟩
      rw [← hcd, ← htx]
      have HCD := Pl.hid hcd
      have HTX := Pl.hid htx
      have HRS := Pl.hid hrs
      clear hcd htx hrs
      have HKN : Hid (RT.kd f ≠ 0) := by show _ ≠ _; rw [HJ.out]; omega
      by_cases hc0 : cd = 0
      · subst hc0
        obtain ⟨v3, hs3⟩ := S3.out.rd (HL3.out.2 HCD.out.symm)
        rw [← HRS.out] at hs3
        have T3 := Pl.hid hs3
        clear hs3
        have hkd : RT.hdR (f :: l') = if J + 1 ≤ 2 then .one (.mk (J + 1) (Pl.B tx) 0 []) rs else if Pl.rIc tx ≠ 0 ∨ (3 < J + 1 ∧ Pl.rIv tx < -1) then .bad 160 else RT.numR (J + 1) (Pl.rIv tx) rs := by
          rw [HTX.out, HRS.out, ← HJ.out]
          by_cases h2 : RT.kd f ≤ 2
          · rw [if_pos h2]; exact RT.hd2 HKN.out HCD.out.symm h2
          · rw [if_neg h2]
            by_cases h3 : Pl.rIc (Pl.lineR l').2.1 ≠ 0 ∨ (3 < RT.kd f ∧ Pl.rIv (Pl.lineR l').2.1 < -1)
            · rw [if_pos h3]; exact RT.hd3 HKN.out HCD.out.symm h2 h3
            · rw [if_neg h3]; exact RT.hd4 HKN.out HCD.out.symm h2 h3
        by_cases hJ2 : J + 1 ≤ 2
        · rw [if_pos hJ2] at hkd
          obtain rfl := HQ.out.trans (RT.decR_one hkd d)
          clear hkd
          go_wp2_with (refine Mm.wp_store4 _ rfl _ _ rfl r _ _ _ _ _ _ T3.out.1.2.1 rfl rfl rfl Mm.leaf_one ?_; intro wf hwf hsf hgf; clear hsf; have HWF := Pl.hid hwf; have HGF := Pl.hid hgf; clear hwf hgf)
          refine bodyPost_ret (Mm.res_cell_tmp rfl _ wf r _ _ _ _ _ _ rfl HWF.out) rfl ?_
          exact ⟨_, _, _, _, rfl, Mm.leaf_own _ _ _ _ _, Mm.DecP.ok (T3.out.fin HGF.out), T3.out.1.fin HGF.out⟩
        · rw [if_neg hJ2] at hkd
          have HKD := Pl.hid hkd
          have htl : (Pl.B tx).size ≤ 140737488351232 := by
            have h1 := Pl.line_back (l := l') HCD.out.symm
            have h2 := congrArg List.length h1.2
            rw [← HTX.out, List.length_append] at h2
            have h3 := HN.out
            rw [List.length_cons] at h3
            rw [Pl.B_size]
            omega
          have HTL := Pl.hid htl
          clear hkd htl
          go_wp2_with fail
          refine (int_walk (Pl.B tx) w3 HTL.out (HE.out.on (S3.out.base HW.out HP.out))).mono ?_
          rintro e w4 ⟨rfl, hb4⟩
          have T4 := Pl.hid (T3.out.below hb4)
          clear hb4
          rw [Pl.L_B]
          obtain ⟨n, hn⟩ : ∃ n, n = Pl.rIv tx := ⟨_, rfl⟩
          obtain ⟨ec, hec⟩ : ∃ ec, ec = Pl.rIc tx := ⟨_, rfl⟩
          have HNI : Hid (Pl.In64 n) := by show Pl.In64 n; rw [hn]; exact Pl.rIv_in tx
          rw [← hn, ← hec] at HKD ⊢
          clear hn hec
          by_cases hbad : ec ≠ 0 ∨ (3 < J + 1 ∧ n < -1)
          · have hk2 := HKD.out
            rw [if_pos hbad] at hk2
            obtain rfl := HQ.out.trans (RT.decR_bad hk2 d)
            clear hk2
            by_cases he0 : ec = 0
            · subst he0
              have hb2 : 3 < J + 1 ∧ n < -1 := by
                rcases hbad with h | h
                · exact absurd rfl h
                · exact h
              obtain ⟨hb3, hb4⟩ := hb2
              clear hbad
              go_wp2_with (refine Mm.wp_store4 _ rfl _ _ rfl r _ _ _ _ _ _ T4.out.1.2.1 rfl rfl rfl Mm.leaf_one ?_; intro wf hwf hsf hgf; clear hsf; have HWF := Pl.hid hwf; have HGF := Pl.hid hgf; clear hwf hgf)
              refine bodyPost_ret (Mm.res_cell_tmp rfl _ wf r _ _ _ _ _ _ rfl HWF.out) rfl ?_
              exact ⟨_, _, _, _, rfl, Mm.zero_own _ _, Mm.DecP.bad (T4.out.fin HGF.out) (by decide), T4.out.1.fin HGF.out⟩
            · have heb : ((ec : Int) != 0) = true := bne_iff_ne.2 he0
              clear hbad he0
              go_wp2_with (refine Mm.wp_store4 _ rfl _ _ rfl r _ _ _ _ _ _ T4.out.1.2.1 rfl rfl rfl Mm.leaf_one ?_; intro wf hwf hsf hgf; clear hsf; have HWF := Pl.hid hwf; have HGF := Pl.hid hgf; clear hwf hgf)
              refine bodyPost_ret (Mm.res_cell_tmp rfl _ wf r _ _ _ _ _ _ rfl HWF.out) rfl ?_
              exact ⟨_, _, _, _, rfl, Mm.zero_own _ _, Mm.DecP.bad (T4.out.fin HGF.out) (by decide), T4.out.1.fin HGF.out⟩
          · have hk2 := HKD.out
            rw [if_neg hbad] at hk2
            have HK2 := Pl.hid hk2
            have he0 : ec = 0 := by
              by_cases h : ec = 0
              · exact h
              · exact absurd (.inl h) hbad
            have hn1 : 3 < J + 1 → -1 ≤ n := fun h => by
              by_cases h' : n < -1
              · exact absurd (.inr ⟨h, h'⟩) hbad
              · omega
            subst he0
            clear hk2 hbad
            rcases (show J = 2 ∨ J = 3 ∨ J = 4 by omega) with rfl | rfl | rfl
            · have hk3 := HK2.out
              rw [show (2 : Int) + 1 = 3 from rfl, RT.num3] at hk3
              obtain rfl := HQ.out.trans (RT.decR_one hk3 d)
              clear hk3 hn1 h36
              go_wp2_with (first | (go_at_call 29; refine (mk_int n w4).mono ?_; rintro e w5 ⟨rfl, hb5⟩; have T5 := Pl.hid (T4.out.below hb5); clear hb5) | (refine Mm.wp_store4 _ rfl _ _ rfl r _ _ _ _ _ _ T5.out.1.2.1 rfl rfl rfl Mm.leaf_one ?_; intro wf hwf hsf hgf; clear hsf; have HWF := Pl.hid hwf; have HGF := Pl.hid hgf; clear hwf hgf))
              refine bodyPost_ret (Mm.res_cell_tmp rfl _ wf r _ _ _ _ _ _ rfl HWF.out) rfl ?_
              exact ⟨_, _, _, _, rfl, Mm.leaf_own _ _ _ _ _, Mm.DecP.ok (T5.out.fin HGF.out), T5.out.1.fin HGF.out⟩
            · rw [show decide ((3 : Int) + 1 = 4) = true from rfl] at h36
              have hn2 := hn1 (by decide)
              clear hn1
              have hk3 := HK2.out
              rw [show (3 : Int) + 1 = 4 from rfl] at hk3
              by_cases hm1 : n = -1
              · subst hm1
                rw [RT.num4n] at hk3
                obtain rfl := HQ.out.trans (RT.decR_one hk3 d)
                clear hk3
                go_wp2_with (first | (go_at_call 33; refine (mk_null w4).mono ?_; rintro e w5 ⟨rfl, hb5⟩; have T5 := Pl.hid (T4.out.below hb5); clear hb5) | (refine Mm.wp_store4 _ rfl _ _ rfl r _ _ _ _ _ _ T5.out.1.2.1 rfl rfl rfl Mm.leaf_one ?_; intro wf hwf hsf hgf; clear hsf; have HWF := Pl.hid hwf; have HGF := Pl.hid hgf; clear hwf hgf))
                refine bodyPost_ret (Mm.res_cell_tmp rfl _ wf r _ _ _ _ _ _ rfl HWF.out) rfl ?_
                exact ⟨_, _, _, _, rfl, Mm.leaf_own _ _ _ _ _, Mm.DecP.ok (T5.out.fin HGF.out), T5.out.1.fin HGF.out⟩
              · have hb1 : ((n : Int) == -1) = false := beq_eq_false_iff_ne.2 hm1
                by_cases hbig : 16777216 < n
                · rw [RT.numL rs (by decide) hbig] at hk3
                  obtain rfl := HQ.out.trans (RT.decR_bad hk3 d)
                  clear hk3
                  go_wp2_with (refine Mm.wp_store4 _ rfl _ _ rfl r _ _ _ _ _ _ T4.out.1.2.1 rfl rfl rfl Mm.leaf_one ?_; intro wf hwf hsf hgf; clear hsf; have HWF := Pl.hid hwf; have HGF := Pl.hid hgf; clear hwf hgf)
                  refine bodyPost_ret (Mm.res_cell_tmp rfl _ wf r _ _ _ _ _ _ rfl HWF.out) rfl ?_
                  exact ⟨_, _, _, _, rfl, Mm.zero_own _ _, Mm.DecP.bad (T4.out.fin HGF.out) (by decide), T4.out.1.fin HGF.out⟩
                · obtain ⟨k, rfl⟩ := Int.eq_ofNat_of_zero_le (show 0 ≤ n by omega)
                  have hkb : k ≤ 16777216 := by omega
                  rw [RT.num4 rs hkb] at hk3
                  have HK3 := Pl.hid hk3
                  have hrl : rs.length < 9223372036854775807 := by
                    have h1 := Pl.line_back (l := l') HCD.out.symm
                    have h2 := congrArg List.length h1.2
                    rw [← HRS.out, List.length_append, List.length_cons, List.length_cons] at h2
                    have h3 := HN.out
                    rw [List.length_cons] at h3
                    omega
                  have HBK := Pl.hid (rbulk_walk W p v3 rs k hkb T4.out.2.2 hrl w4 (T4.out.1.base HW.out HP.out) T4.out.2.1)
                  clear hk3 hrl
                  go_wp2_with fail
                  refine HBK.out.mono ?_
                  rintro e w5 ⟨rfl, hl5, hg5⟩
                  have HL5 := Pl.hid hl5
                  have S5 := Pl.hid (T4.out.1.grown hg5)
                  obtain ⟨z5, hz5⟩ := hl5.1
                  obtain ⟨y5, hy5⟩ := S5.out.rd hz5
                  have Z5 := Pl.hid hy5
                  clear hl5 hg5 HBK hz5 hy5
                  obtain ⟨cb, hcb⟩ : ∃ cb, cb = (RT.bulkR k rs).1 := ⟨_, rfl⟩
                  obtain ⟨tb, htb⟩ : ∃ tb, tb = (RT.bulkR k rs).2.1 := ⟨_, rfl⟩
                  obtain ⟨rb, hrb⟩ : ∃ rb, rb = (RT.bulkR k rs).2.2 := ⟨_, rfl⟩
                  have hk4 := HK3.out
                  rw [← hcb, ← htb, ← hrb] at hk4
                  rw [← hcb, ← htb]
                  have HCB := Pl.hid hcb
                  have HRB := Pl.hid hrb
                  clear hcb htb hrb
                  by_cases hc0 : cb = 0
                  · subst hc0
                    rw [if_pos rfl] at hk4
                    obtain rfl := HQ.out.trans (RT.decR_one hk4 d)
                    clear hk4
                    obtain ⟨v6, hs6⟩ := S5.out.rd (HL5.out.2 HCB.out.symm)
                    rw [← HRB.out] at hs6
                    have T6 := Pl.hid hs6
                    clear hs6
                    go_wp2_with (first | (go_at_call 31; refine (mk_bulk (Pl.B tb) w5).mono ?_; rintro e w7 ⟨rfl, hb7⟩; have T7 := Pl.hid (T6.out.below hb7); clear hb7) | (refine Mm.wp_store4 _ rfl _ _ rfl r _ _ _ _ _ _ T7.out.1.2.1 rfl rfl rfl Mm.leaf_one ?_; intro wf hwf hsf hgf; clear hsf; have HWF := Pl.hid hwf; have HGF := Pl.hid hgf; clear hwf hgf))
                    refine bodyPost_ret (Mm.res_cell_tmp rfl _ wf r _ _ _ _ _ _ rfl HWF.out) rfl ?_
                    exact ⟨_, _, _, _, rfl, Mm.leaf_own _ _ _ _ _, Mm.DecP.ok (T7.out.fin HGF.out), T7.out.1.fin HGF.out⟩
                  · rw [if_neg hc0] at hk4
                    obtain rfl := HQ.out.trans (RT.decR_bad hk4 d)
                    have hcbb : ((cb : Int) != 0) = true := bne_iff_ne.2 hc0
                    have HC0 := Pl.hid hc0
                    clear hk4 hc0
                    go_wp2_with (refine Mm.wp_store4 _ rfl _ _ rfl r _ _ _ _ _ _ S5.out.2.1 rfl rfl rfl Mm.leaf_one ?_; intro wf hwf hsf hgf; clear hsf; have HWF := Pl.hid hwf; have HGF := Pl.hid hgf; clear hwf hgf)
                    refine bodyPost_ret (Mm.res_cell_tmp rfl _ wf r _ _ _ _ _ _ rfl HWF.out) rfl ?_
                    exact ⟨_, _, _, _, rfl, Mm.zero_own _ _, Mm.DecP.bad (Z5.out.fin HGF.out) HC0.out, S5.out.fin HGF.out⟩
            · rw [show decide ((4 : Int) + 1 = 4) = false from rfl] at h36
              have hn2 := hn1 (by decide)
              clear hn1
              have hk3 := HK2.out
              rw [show (4 : Int) + 1 = 5 from rfl] at hk3
              by_cases hm1 : n = -1
              · subst hm1
                rw [RT.num5n] at hk3
                obtain rfl := HQ.out.trans (RT.decR_one hk3 d)
                clear hk3
                go_wp2_with (refine Mm.wp_store4 _ rfl _ _ rfl r _ _ _ _ _ _ T4.out.1.2.1 rfl rfl rfl Mm.leaf_one ?_; intro wf hwf hsf hgf; clear hsf; have HWF := Pl.hid hwf; have HGF := Pl.hid hgf; clear hwf hgf)
                refine bodyPost_ret (Mm.res_cell_tmp rfl _ wf r _ _ _ _ _ _ rfl HWF.out) rfl ?_
                exact ⟨_, _, _, _, rfl, Mm.leaf_own _ _ _ _ _, Mm.DecP.ok (T4.out.fin HGF.out), T4.out.1.fin HGF.out⟩
              · have hb1 : ((n : Int) == -1) = false := beq_eq_false_iff_ne.2 hm1
                by_cases hbig : 16777216 < n
                · rw [RT.numL rs (by decide) hbig] at hk3
                  obtain rfl := HQ.out.trans (RT.decR_bad hk3 d)
                  clear hk3
                  go_wp2_with (refine Mm.wp_store4 _ rfl _ _ rfl r _ _ _ _ _ _ T4.out.1.2.1 rfl rfl rfl Mm.leaf_one ?_; intro wf hwf hsf hgf; clear hsf; have HWF := Pl.hid hwf; have HGF := Pl.hid hgf; clear hwf hgf)
                  refine bodyPost_ret (Mm.res_cell_tmp rfl _ wf r _ _ _ _ _ _ rfl HWF.out) rfl ?_
                  exact ⟨_, _, _, _, rfl, Mm.zero_own _ _, Mm.DecP.bad (T4.out.fin HGF.out) (by decide), T4.out.1.fin HGF.out⟩
                · obtain ⟨k, rfl⟩ := Int.eq_ofNat_of_zero_le (show 0 ≤ n by omega)
                  have hkb : k ≤ 16777216 := by omega
                  rw [RT.num5 rs hkb] at hk3
                  cases d with
                  | zero =>
                    obtain rfl := HQ.out.trans (RT.decR_deep hk3)
                    obtain rfl : D = 8 := HDD.out
                    clear hk3
                    go_wp2_with (refine Mm.wp_store4 _ rfl _ _ rfl r _ _ _ _ _ _ T4.out.1.2.1 rfl rfl rfl Mm.leaf_one ?_; intro wf hwf hsf hgf; clear hsf; have HWF := Pl.hid hwf; have HGF := Pl.hid hgf; clear hwf hgf)
                    refine bodyPost_ret (Mm.res_cell_tmp rfl _ wf r _ _ _ _ _ _ rfl HWF.out) rfl ?_
                    exact ⟨_, _, _, _, rfl, Mm.zero_own _ _, Mm.DecP.bad (T4.out.fin HGF.out) (by decide), T4.out.1.fin HGF.out⟩
                  | succ d' =>
                    have hD8 : ((D : Int) == 8) = false := beq_eq_false_iff_ne.2 (by have := HDD.out; omega)
                    have HQQ := Pl.hid (HQ.out.trans (RT.decR_arr hk3 d'))
                    have HIH' := Pl.hid (HIH.out d' rfl)
                    have HDE : Hid ((8 : Int) - (d' : Int) = D + 1) := by show _ = _; have := HDD.out; omega
                    obtain ⟨x, hx⟩ : ∃ x, w4.heap.size = x := ⟨_, rfl⟩
                    have hrl : rs.length ≤ 100000000 := by
                      have h1 := Pl.line_back (l := l') HCD.out.symm
                      have h2 := congrArg List.length h1.2
                      rw [← HRS.out, List.length_append, List.length_cons, List.length_cons] at h2
                      have h3 := HN.out
                      rw [List.length_cons] at h3
                      omega
                    have HRL := Pl.hid hrl
                    clear hk3 hrl hm1
                    go_wp2_with (refine Mm.wp_store4 _ rfl _ _ rfl x _ _ _ _ _ _ (by rw [← hx]; exact heap_alloc_new w4 _) rfl rfl rfl Mm.leaf_one ?_; intro w5 hw5 hs5 hg5; clear hs5; have HX5 := Pl.hid hw5; have T5 := Pl.hid (T4.out.below (Mm.newcell4 (by rw [hx]; exact hg5))); have HXS : Hid (w.heap.size ≤ x ∧ x < w5.heap.size) := ⟨by rw [← hx]; exact T4.out.1.1.size, (Array.getElem?_eq_some_iff.1 hw5).1⟩; clear hw5 hg5)
                    obtain ⟨lo, hlo⟩ : ∃ lo, lo = w5.heap.size := ⟨_, rfl⟩
                    have HLO : Hid (w.heap.size ≤ x ∧ x < lo ∧ r < x ∧ lo = w5.heap.size) := ⟨HXS.out.1, by rw [hlo]; exact HXS.out.2, by rw [← hx]; exact T4.out.1.rlt.1, hlo⟩
                    have HPR : Hid (r = w.heap.size ∧ p < w.heap.size) := T4.out.1.2.2
                    clear hlo hx h36 hb1 hn2 hbig
                    go_loopw [116] (fun jv wr => ∃ (j : Nat) (ts : List RT) (lv vc : Value) (lc : List UInt8), jv = .int .i64 j ∧ j ≤ k ∧ Hid (wr.heap[x]? = some (.cells #[.int .i64 6, .string ⟨#[]⟩, .int .i64 0, lv] 31 (0, 0))) ∧ Hid (Mm.OwnL wr lo lv ts) ∧ Hid (ts.length = j) ∧
                        Hid (Mm.StD W w wr p r vc lc) ∧ Hid (RT.decN (RT.decR d') (k - j) ts lc = RT.decN (RT.decR d') k [] rs) ∧ Hid (lc.length ≤ 100000000) ∧ Hid (lo ≤ wr.heap.size)) (fun jv _ => k - (intOf jv).toNat)
                    case atStart => exact ⟨0, [], .slice none 0 0, v3, rs, rfl, Nat.zero_le _, HX5.out, Mm.OwnL.nil _ _, rfl, T5.out, rfl, HRL.out, Nat.le_of_eq HLO.out.2.2.2⟩
                    case round =>
                      obtain ⟨j, ts, lv, vc, lc, rfl, hj, HXr, HO, HTL', HS, HDN, HLC, HLr⟩ := hrel
                      have e3 := Mm.cell_of HXr.out (i := 3) rfl
                      rcases Nat.lt_or_ge j k with hlt | hge
                      · have HC := HIH'.out lc vc HS.out.2.2 HLC.out wr (HS.out.1.base HW.out HP.out) HS.out.2.1
                        rw [HDE.out] at HC
                        have HCC := Pl.hid HC
                        clear HC e3
                        go_wp2_with fail
                        refine HCC.out.mono ?_
                        rintro e w6 ⟨c0, c1, c2, c3, rfl, hown, hdp, hg6⟩
                        have HOW := Pl.hid hown
                        have HDP := Pl.hid hdp
                        have HG6 := Pl.hid hg6
                        have S6 := Pl.hid (HS.out.1.grown hg6)
                        obtain ⟨z6, hz6⟩ := hdp.1
                        obtain ⟨y6, hy6⟩ := S6.out.rd hz6
                        have Z6 := Pl.hid hy6
                        have hxr := HLO.out
                        have hpr := HPR.out
                        have HX6 : Hid (w6.heap[x]? = some (.cells #[.int .i64 6, .string ⟨#[]⟩, .int .i64 0, lv] 31 (0, 0))) :=
                          (hg6.block x (Array.getElem?_eq_some_iff.1 HXr.out).1 (fun e => by injection e with e; omega)).trans HXr.out
                        obtain ⟨cc, hcc⟩ : ∃ cc, cc = (RT.decR d' lc).1 := ⟨_, rfl⟩
                        obtain ⟨tt, htt⟩ : ∃ tt, tt = (RT.decR d' lc).2.1 := ⟨_, rfl⟩
                        obtain ⟨lr, hlr⟩ : ∃ lr, lr = (RT.decR d' lc).2.2 := ⟨_, rfl⟩
                        rw [← hcc]
                        rw [← htt] at HOW
                        have HCB := Pl.hid hcc
                        have HTT := Pl.hid htt
                        have HLR := Pl.hid hlr
                        obtain ⟨y, hy⟩ : ∃ y, w6.heap.size = y := ⟨_, rfl⟩
                        have HY : Hid (w6.heap.size = y ∧ x < y ∧ wr.heap.size ≤ y ∧ r < y) := ⟨hy, by rw [← hy]; have := (Array.getElem?_eq_some_iff.1 HX6.out).1; exact this, by rw [← hy]; exact hg6.size, by rw [← hy]; exact S6.out.rlt.1⟩
                        have hkj : k - j = (k - (j + 1)) + 1 := by omega
                        have hdn := HDN.out
                        rw [hkj] at hdn
                        simp only [RT.decN] at hdn
                        rw [← hcc, ← htt, ← hlr] at hdn
                        have HDN2 := Pl.hid hdn
                        clear hown hdp hg6 hz6 hy6 hcc htt hlr hkj hdn hxr hpr HCC
                        by_cases hc0 : cc = 0
                        · subst hc0
                          have hdn := HDN2.out
                          rw [if_pos rfl] at hdn
                          have HDN3 := Pl.hid hdn
                          obtain ⟨v6, hs6⟩ := S6.out.rd (HDP.out.2 HCB.out.symm)
                          rw [← HLR.out] at hs6
                          have T6 := Pl.hid hs6
                          obtain ⟨w0, hz0, hk0, hb0⟩ := Mm.trunc HG6.out
                          have HO0 : Hid (Mm.OwnL w0 lo lv ts) := HO.out.keepAt fun g hg hgl => hk0 g hgl (by have := HLO.out; have := HPR.out; omega)
                          have HB0 := Pl.hid hb0
                          have HZ0 := Pl.hid hz0
                          have HRR := Pl.hid hk0
                          clear hs6 hdn hz0 hk0 hb0
                          have HST : Hid (∀ w7 : World, w7.heap[y]? = some (.cells #[c0, c1, c2, c3] 31 (0, 0)) → Below w6.heap.size w6 w7 → w7.heap[x]? = some (.cells #[.int .i64 6, .string ⟨#[]⟩, .int .i64 0, lv] 31 (0, 0)) ∧
                              w7.cell? ⟨x, 3, none⟩ = some lv ∧ w7.cell? ⟨y, 0, none⟩ = some c0 ∧ w7.cell? ⟨y, 1, none⟩ = some c1 ∧ w7.cell? ⟨y, 2, none⟩ = some c2 ∧ w7.cell? ⟨y, 3, none⟩ = some c3 ∧
                              Hid (Mm.OwnT w7 w0.heap.size tt [c0, c1, c2, c3]) ∧ Hid (Below w0.heap.size w0 w7) ∧ Hid (Mm.StD W w w7 p r v6 lr)) := fun w7 h7 hb7 => by
                            have hx7 := (hb7.block x (by have := HY.out; omega)).trans HX6.out
                            refine ⟨hx7, Mm.cell_of hx7 (i := 3) rfl, Mm.cell_of h7 (i := 0) rfl, Mm.cell_of h7 (i := 1) rfl, Mm.cell_of h7 (i := 2) rfl, Mm.cell_of h7 (i := 3) rfl, ?_, HB0.out.trans (hb7.mono HB0.out.size), T6.out.below hb7⟩
                            show Mm.OwnT _ _ _ _
                            rw [HZ0.out]
                            exact HOW.out.below hb7
                          have HSZ : Hid (ts.length < 1073741824 ∧ lo ≤ w0.heap.size) := ⟨by rw [HTL'.out]; omega, by rw [HZ0.out]; exact HLr.out⟩
                          have HST6 : Hid (∀ (w7 w8 : World), w7.heap[x]? = some (.cells #[.int .i64 6, .string ⟨#[]⟩, .int .i64 0, lv] 31 (0, 0)) → Below lo w7 w8 → w8.heap[x]? = some (.cells #[.int .i64 6, .string ⟨#[]⟩, .int .i64 0, lv] 31 (0, 0))) := fun w7 w8 h7 hb =>
                            (hb.block x HLO.out.2.1).trans h7
                          go_wp2_with (first
                            | (refine Mm.wp_store4 _ rfl _ _ rfl y _ _ _ _ _ _ (by rw [← hy]; exact heap_alloc_new w6 _) rfl rfl rfl HOW.out.one ?_; intro w7 hw7 hs7 hg7; clear hs7; obtain ⟨hx7, x3, q0, q1, q2, q3, HT7, HB7, T7⟩ := HST.out w7 hw7 (Mm.newcell4 (by rw [hy]; exact hg7)); clear hw7 hg7)
                            | (at_builtin; refine Mm.wp_appR _ rfl _ _ (by rfl) w0 w7 lo lv ts (by rfl) HO0.out tt [c0, c1, c2, c3] HT7.out (by rfl) (by rfl) HB7.out HSZ.out.1 HSZ.out.2 ?_; intro v8 w8 ho8 hb8; have HO8 := Pl.hid ho8; have HB8 := Pl.hid hb8; clear ho8 hb8; have hx8 := HST6.out w7 w8 hx7 HB8.out)
                            | (refine Mm.wp_storeF _ rfl 29 _ _ (by rfl) Mm.Tryd.info_rl x 3 31 #[.int .i64 6, .string ⟨#[]⟩, .int .i64 0, lv] v8 hx8 (by rfl) (by rfl) (Nat.lt_succ_self 3) HO8.out.one.2 HO8.out.one.1 ?_; intro w9 hw9 hs9 hg9; have HW9 := Pl.hid hw9; have HG9 := Pl.hid hg9; clear hw9 hs9 hg9))
                          have hlo := HLO.out
                          have T8 := T7.out.lowB HB8.out (by omega)
                          refine ⟨⟨j + 1, ts ++ [tt], v8, v6, lr, by go_num, hlt, HW9.out, ?_, ?_, T8.other HG9.out (by omega), HDN3.out, ?_, ?_⟩, by simp [intOf]; omega⟩
                          · exact HO8.out.keepLo fun g hg hgl => HG9.out.block g hgl (by intro e; cases e; omega)
                          · show _ = _
                            rw [List.length_append, HTL'.out]
                            rfl
                          · show _ ≤ _
                            rw [HLR.out]
                            exact Nat.le_trans (RT.dec_len HCB.out.symm) HLC.out
                          · show _ ≤ _
                            have h1 := HG9.out.size
                            have h2 := HB8.out.size
                            have h3 := HB7.out.size
                            have h4 := HSZ.out.2
                            omega
                        · have hdn := HDN2.out
                          rw [if_neg hc0] at hdn
                          have hq' := HQQ.out
                          rw [← hdn, RT.arrR_bad hc0] at hq'
                          obtain rfl := hq'
                          have hccb : ((cc : Int) != 0) = true := bne_iff_ne.2 hc0
                          have HC0 := Pl.hid hc0
                          clear hdn hc0
                          go_wp2_with (first
                            | (refine Mm.wp_store4 _ rfl _ _ rfl y _ _ _ _ _ _ (by rw [← hy]; exact heap_alloc_new w6 _) rfl rfl rfl HOW.out.one ?_; intro w7 hw7 hs7 hg7; clear hs7; have S7 := Pl.hid (S6.out.below (Mm.newcell4 (by rw [hy]; exact hg7))); have Z7 := Pl.hid (Z6.out.below (Mm.newcell4 (by rw [hy]; exact hg7))); clear hw7 hg7)
                            | (refine Mm.wp_store4 _ rfl _ _ rfl r _ _ _ _ _ _ S7.out.2.1 rfl rfl rfl Mm.leaf_one ?_; intro wf hwf hsf hgf; clear hsf; have HWF := Pl.hid hwf; have HGF := Pl.hid hgf; clear hwf hgf))
                          (try simp only [Exit.inBlock, Exit.then])
                          refine bodyPost_ret (Mm.res_cell_tmp rfl _ wf r _ _ _ _ _ _ rfl HWF.out) rfl ?_
                          exact ⟨_, _, _, _, rfl, Mm.zero_own _ _, Mm.DecP.bad (Z7.out.fin HGF.out) HC0.out, S7.out.fin HGF.out⟩
                      · obtain rfl : j = k := by omega
                        have hdn := HDN.out
                        rw [Nat.sub_self] at hdn
                        simp only [RT.decN] at hdn
                        have hq' := HQQ.out
                        rw [← hdn, RT.arrR_ok] at hq'
                        obtain rfl := hq'
                        have e0 := Mm.cell_of HXr.out (i := 0) rfl
                        have e1 := Mm.cell_of HXr.out (i := 1) rfl
                        have e2 := Mm.cell_of HXr.out (i := 2) rfl
                        clear hdn
                        go_wp2_with (refine Mm.wp_store4 _ rfl _ _ rfl r _ _ _ _ _ _ HS.out.1.2.1 rfl rfl rfl (by intro u hu; simp only [List.mem_cons, List.mem_nil_iff, or_false] at hu; rcases hu with rfl | rfl | rfl | rfl <;> first | rfl | exact HO.out.one.1) ?_; intro wf hwf hsf hgf; clear hsf; have HWF := Pl.hid hwf; have HGF := Pl.hid hgf; clear hwf hgf)
                        (try simp only [Exit.inBlock, Exit.then])
                        refine bodyPost_ret (Mm.res_cell_tmp rfl _ wf r _ _ _ _ _ _ rfl HWF.out) rfl ?_
                        have hlo := HLO.out
                        have hpr := HPR.out
                        exact ⟨_, _, _, _, rfl, ((HO.out.rep 6 ⟨#[]⟩ 0).keepLo (fun g hg hgl => HGF.out.block g hgl (by intro e; cases e; omega))).lo (by omega), Mm.DecP.ok (HS.out.fin HGF.out), HS.out.1.fin HGF.out⟩
      · have hbad : RT.hdR (f :: l') = .bad cd := by
          rw [HCD.out]
          exact RT.hd1 HKN.out (by rw [← HCD.out]; exact hc0)
        obtain rfl := HQ.out.trans (RT.decR_bad hbad d)
        clear hbad
        have hcb : ((cd : Int) != 0) = true := bne_iff_ne.2 hc0
        have HC0 := Pl.hid hc0
        clear hc0
        go_wp2_with (refine Mm.wp_store4 _ rfl _ _ rfl r _ _ _ _ _ _ S3.out.2.1 rfl rfl rfl Mm.leaf_one ?_; intro wf hwf hsf hgf; clear hsf; have HWF := Pl.hid hwf; have HGF := Pl.hid hgf; clear hwf hgf)
        refine bodyPost_ret (Mm.res_cell_tmp rfl _ wf r _ _ _ _ _ _ rfl HWF.out) rfl ?_
        exact ⟨_, _, _, _, rfl, Mm.zero_own _ _, Mm.DecP.bad (Z3.out.fin HGF.out) HC0.out, S3.out.fin HGF.out⟩
end Go.Proofs.YtakldjdohgmeiaaDoor

namespace Go.Proofs.YtakldjdohgmeiaaDoor
open Go.RowKit
set_option maxRecDepth 20000

namespace RT
/-- what Decode tells of bytes -/
def dcode (l : List UInt8) : Int := if (decR 8 l).1 ≠ 0 then (decR 8 l).1 else if 16777216 < l.length - (decR 8 l).2.2.length then 2 else 0
def dtree (l : List UInt8) : RT := if dcode l = 0 then (decR 8 l).2.1 else nul
def dsize (l : List UInt8) : Nat := if dcode l = 0 then l.length - (decR 8 l).2.2.length else 0
theorem dec_bad {l : List UInt8} {c : Int} (hc : c = (decR 8 l).1) (h : c ≠ 0) : dcode l = c ∧ dtree l = nul ∧ dsize l = 0 := by
  have e : dcode l = c := by unfold dcode; rw [if_pos (by rw [← hc]; exact h), hc]
  exact ⟨e, by unfold dtree; rw [e, if_neg h], by unfold dsize; rw [e, if_neg h]⟩
theorem dec_long {l : List UInt8} (hc : (decR 8 l).1 = 0) (h : 16777216 < l.length - (decR 8 l).2.2.length) : dcode l = 2 ∧ dtree l = nul ∧ dsize l = 0 := by
  have e : dcode l = 2 := by unfold dcode; rw [if_neg (by simp [hc]), if_pos h]
  exact ⟨e, by unfold dtree; rw [e, if_neg (by decide)], by unfold dsize; rw [e, if_neg (by decide)]⟩
theorem dec_good {l : List UInt8} (hc : (decR 8 l).1 = 0) (h : ¬ 16777216 < l.length - (decR 8 l).2.2.length) : dcode l = 0 ∧ dtree l = (decR 8 l).2.1 ∧ dsize l = l.length - (decR 8 l).2.2.length := by
  have e : dcode l = 0 := by unfold dcode; rw [if_neg (by simp [hc]), if_neg h]
  exact ⟨e, by unfold dtree; rw [e, if_pos rfl], by unfold dsize; rw [e, if_pos rfl]⟩
end RT
namespace Mm
/-- the results of a function whose first result is a reply in memory, and two more -/
theorem res_cell_tmp2 {fn : Func} {p u t : Tmp} (h : fn.results = #[.cell p 31, .tmp u, .tmp t]) (tmps : Array Value) (w : World) (g : Nat) (T : TypeId) (c0 c1 c2 c3 : Value) (fr : Nat × Nat)
    (hp : tmps.getD p undef = .pointer (some ⟨g, 0, none⟩)) (hg : w.heap[g]? = some (.cells #[c0, c1, c2, c3] T fr)) :
    (results fn tmps).run Tryd.prog w = .ok (.tuple #[.agg #[c0, c1, c2, c3], tmps.getD u undef, tmps.getD t undef]) w := by
  obtain ⟨i0, hi, hz0, hz1, hz2⟩ := info_parts Tryd.info_rep
  have key : (results fn tmps).run Tryd.prog w = ((asAddr (tmps.getD p undef)).run Tryd.prog w).andThen fun a w₁ => ((loadVar 31 a).run Tryd.prog w₁).andThen fun v w₂ => .ok (.tuple #[v, tmps.getD u undef, tmps.getD t undef]) w₂ := by
    simp only [results, h]
    simp [Sem.run_bind, Result.andThen]
  rw [key, hp]
  simp only [asAddr]
  simp [run_loadVar_row w g T 31 _ fr _ hg Tryd.underlying31 rfl (by rw [hi]; simp [hz1])]
end Mm

theorem rread_walk (W : World) (p : Nat) (hp : W.heap.size ≤ p) (hU : Mm.U8 W) (hX : Mm.MaxI W) (hE : Mm.Errs W) : ∀ d, d ≤ 8 → Mm.ReadC W p d
  | 0, h => rreply_step W p 0 h hp hU hX hE fun _ e => (by cases e)
  | d + 1, h => rreply_step W p (d + 1) h hp hU hX hE fun d' e => by
    injection e with e
    subst e
    exact rread_walk W p hp hU hX hE d (by omega)

set_option maxHeartbeats 8000000 in
theorem decode_walk (W : World) (hU : Mm.U8 W) (hX : Mm.MaxI W) (hE : Mm.Errs W) (v : Value) (l : List UInt8) (hv : Mm.Bs W v l) (hl : l.length ≤ 100000000) :
    Calls Tryd.prog 16 #[v] W fun e w' => ∃ c0 c1 c2 c3, e = .returned (.tuple #[.agg #[c0, c1, c2, c3], .int .i64 (RT.dsize l), .int .i64 (RT.dcode l)]) ∧
      Mm.OwnT w' W.heap.size (RT.dtree l) [c0, c1, c2, c3] ∧ Below W.heap.size W w' := by
  obtain ⟨a, c, rfl⟩ : ∃ a c, v = .slice a l.length c := by obtain ⟨a, c, h, _⟩ := hv; exact ⟨a, c, h⟩
  obtain ⟨sz, hsz⟩ : ∃ sz : Int, sz = RT.dsize l := ⟨_, rfl⟩
  obtain ⟨cd, hcd⟩ : ∃ cd, cd = RT.dcode l := ⟨_, rfl⟩
  obtain ⟨tr, htr⟩ : ∃ tr, tr = RT.dtree l := ⟨_, rfl⟩
  rw [← hsz, ← hcd, ← htr]
  have HSZ := Pl.hid hsz
  have HCD := Pl.hid hcd
  have HTR := Pl.hid htr
  clear hsz hcd htr
  obtain ⟨N, hN⟩ : ∃ N, N = l.length := ⟨_, rfl⟩
  rw [← hN] at hv hl ⊢
  have HN := Pl.hid hN
  obtain ⟨w1, hw1⟩ : ∃ w1, W.alloc (.cells #[.int .i64 0, .string ⟨#[]⟩, .int .i64 0, .slice none 0 0] 31) = w1 := ⟨_, rfl⟩
  obtain ⟨w2, hw2⟩ : ∃ w2, w1.alloc (.cells #[.slice a N c] 79) = w2 := ⟨_, rfl⟩
  obtain ⟨r, hr⟩ : ∃ r, W.heap.size = r := ⟨_, rfl⟩
  obtain ⟨p, hp⟩ : ∃ p, w1.heap.size = p := ⟨_, rfl⟩
  have HB1 : Hid (Below W.heap.size W w1) := by rw [← hw1]; exact (Below.refl _ _).alloc (Nat.le_refl _) _
  have HB12 : Hid (Below w1.heap.size w1 w2) := by rw [← hw2]; exact (Below.refl _ _).alloc (Nat.le_refl _) _
  have HB2 : Hid (Below W.heap.size W w2) := HB1.out.trans (HB12.out.mono HB1.out.size)
  have HR1 : Hid (w1.heap[r]? = some (.cells #[.int .i64 0, .string ⟨#[]⟩, .int .i64 0, .slice none 0 0] 31 (0, 0))) := by show _ = _; rw [← hw1, ← hr]; exact heap_alloc_new W _
  have HRP : Hid (r < p ∧ p < w2.heap.size ∧ W.heap.size = r) := ⟨by rw [← hp]; exact (Array.getElem?_eq_some_iff.1 HR1.out).1, by rw [← hp, ← hw2]; simp, hr⟩
  have HR2 : Hid (w2.heap[r]? = some (.cells #[.int .i64 0, .string ⟨#[]⟩, .int .i64 0, .slice none 0 0] 31 (0, 0))) := (HB12.out.block r (by have := HRP.out; omega)).trans HR1.out
  have HP2 : Hid (w2.heap[p]? = some (.cells #[.slice a N c] 79 (0, 0))) := by show _ = _; rw [← hw2, ← hp]; exact heap_alloc_new w1 _
  have HRC := rread_walk W p (by have := HRP.out; omega) hU hX hE 8 (Nat.le_refl _) l _ (by rw [← hN] at *; exact hv) (by rw [← hN]; exact hl) w2 HB2.out HP2.out
  rw [show (8 : Int) - ((8 : Nat) : Int) = 0 by decide] at HRC
  have HRC' := Pl.hid HRC
  clear HRC hU hX hE hv hN HR1 HP2
  go_enter Tryd.func16, Tryd.ntmps16
  go_wp2_with fail
  refine HRC'.out.mono ?_
  rintro e w3 ⟨c0, c1, c2, c3, rfl, hown, hdp, hg3⟩
  have HOW := Pl.hid hown
  have HDP := Pl.hid hdp
  have HG3 := Pl.hid hg3
  clear hown hdp hg3 HRC'
  obtain ⟨y, hy⟩ : ∃ y, w3.heap.size = y := ⟨_, rfl⟩
  obtain ⟨cc, hcc⟩ : ∃ cc, cc = (RT.decR 8 l).1 := ⟨_, rfl⟩
  rw [← hcc]
  have HCC := Pl.hid hcc
  clear hcc
  have HZ : Hid (w2.heap.size ≤ w3.heap.size ∧ w3.heap.size = y ∧ r < y ∧ p < y ∧ p ≠ r) := by have := HRP.out; have := HG3.out.size; exact ⟨this, hy, by omega, by omega, by omega⟩
  have HR3 : Hid (w3.heap[r]? = some (.cells #[.int .i64 0, .string ⟨#[]⟩, .int .i64 0, .slice none 0 0] 31 (0, 0))) :=
    (HG3.out.block r (by have := HRP.out; omega) (fun e => by injection e with e; have := HRP.out; omega)).trans HR2.out
  have HB3 : Hid (Below W.heap.size W w3) := HB2.out.grown HG3.out HB2.out.size (fun k hk => by injection hk with hk; have := HRP.out; omega)
  have key : ∃ (vz : Value) (lz : List UInt8), w3.heap[p]? = some (.cells #[vz] 79 (0, 0)) ∧ (∃ az nz cz, vz = .slice az nz cz ∧ nz = lz.length) ∧ (cc = 0 → lz = (RT.decR 8 l).2.2) := by
    by_cases h0 : cc = 0
    · obtain ⟨vz, h1, az, cz, h2, _⟩ := HDP.out.2 (by rw [← HCC.out]; exact h0)
      exact ⟨vz, _, h1, ⟨az, _, cz, h2, rfl⟩, fun _ => rfl⟩
    · obtain ⟨lz, vz, h1, az, cz, h2, _⟩ := HDP.out.1
      exact ⟨vz, lz, h1, ⟨az, _, cz, h2, rfl⟩, fun h => absurd h h0⟩
  obtain ⟨_, lz, hp3, ⟨az, nz, cz, rfl, hnz⟩, hlz⟩ := key
  have HP3 := Pl.hid hp3
  have HNZ := Pl.hid hnz
  have HLZ := Pl.hid hlz
  clear hp3 hnz hlz
  have HST : Hid (∀ w4 : World, w4.heap[y]? = some (.cells #[c0, c1, c2, c3] 31 (0, 0)) → Below w3.heap.size w3 w4 → w4.cell? ⟨p, 0, none⟩ = some (.slice az nz cz) ∧ w4.cell? ⟨y, 0, none⟩ = some c0 ∧ w4.cell? ⟨y, 1, none⟩ = some c1 ∧ w4.cell? ⟨y, 2, none⟩ = some c2 ∧
      w4.cell? ⟨y, 3, none⟩ = some c3 ∧ Hid (w4.heap[r]? = some (.cells #[.int .i64 0, .string ⟨#[]⟩, .int .i64 0, .slice none 0 0] 31 (0, 0))) ∧ Hid (Below W.heap.size W w4) ∧ Hid (Mm.OwnT w4 w2.heap.size (RT.decR 8 l).2.1 [c0, c1, c2, c3])) := fun w4 h4 hb4 => by
    have hz := HZ.out
    exact ⟨Mm.cell_of ((hb4.block p (by omega)).trans HP3.out) (i := 0) rfl, Mm.cell_of h4 (i := 0) rfl, Mm.cell_of h4 (i := 1) rfl, Mm.cell_of h4 (i := 2) rfl, Mm.cell_of h4 (i := 3) rfl,
      (hb4.block r (by omega)).trans HR3.out, HB3.out.trans (hb4.mono HB3.out.size), HOW.out.below hb4⟩
  have fin : ∀ (w4 wf : World), w4.heap[r]? = some (.cells #[.int .i64 0, .string ⟨#[]⟩, .int .i64 0, .slice none 0 0] 31 (0, 0)) → Below W.heap.size W w4 → w4.grownBy wf (some r) → Below W.heap.size W wf := fun w4 wf _ hb hg =>
    hb.grown hg hb.size (fun k hk => by injection hk with hk; have := HRP.out; omega)
  have FIN := Pl.hid fin
  clear fin
  by_cases hc0 : cc = 0
  · subst hc0
    have hlz := HLZ.out rfl
    have hle := RT.dec_len HCC.out.symm
    rw [← hlz, ← HNZ.out, ← HN.out] at hle
    have HLE := Pl.hid hlz
    clear hlz
    by_cases hbig : 16777216 < N - nz
    · obtain ⟨g1, g2, g3⟩ := RT.dec_long HCC.out.symm (by rw [← HLE.out, ← HNZ.out, ← HN.out]; exact hbig)
      obtain rfl := HCD.out.trans g1
      obtain rfl := HTR.out.trans g2
      obtain rfl : sz = 0 := by have := HSZ.out; rw [g3] at this; exact this
      have hb' : (16777216 : Int) < (N : Int) - (nz : Int) := by omega
      clear g1 g2 g3
      go_wp2_with (first
        | (refine Mm.wp_store4 _ rfl _ _ rfl y _ _ _ _ _ _ (by rw [← hy]; exact heap_alloc_new w3 _) rfl rfl rfl HOW.out.one ?_; intro w4 hw4 hs4 hg4; clear hs4; obtain ⟨p4, q0, q1, q2, q3, HR4, HB4, HO4⟩ := HST.out w4 hw4 (Mm.newcell4 (by rw [hy]; exact hg4)); clear hw4 hg4)
        | (refine Mm.wp_store4 _ rfl _ _ rfl r _ _ _ _ _ _ HR4.out rfl rfl rfl Mm.leaf_one ?_; intro wf hwf hsf hgf; clear hsf; have HWF := Pl.hid hwf; have HGF := Pl.hid hgf; clear hwf hgf))
      refine bodyPost_ret (Mm.res_cell_tmp2 rfl _ wf r _ _ _ _ _ _ rfl HWF.out) rfl ?_
      exact ⟨_, _, _, _, rfl, Mm.zero_own _ _, FIN.out _ _ HR4.out HB4.out HGF.out⟩
    · obtain ⟨g1, g2, g3⟩ := RT.dec_good HCC.out.symm (by rw [← HLE.out, ← HNZ.out, ← HN.out]; exact hbig)
      obtain rfl := HCD.out.trans g1
      obtain rfl := HTR.out.trans g2
      obtain rfl : sz = (N : Int) - (nz : Int) := by
        have := HSZ.out
        rw [g3, ← HLE.out, ← HNZ.out, ← HN.out] at this
        omega
      have hb' : ¬ (16777216 : Int) < (N : Int) - (nz : Int) := by omega
      clear g1 g2 g3
      go_wp2_with (first
        | (refine Mm.wp_store4 _ rfl _ _ rfl y _ _ _ _ _ _ (by rw [← hy]; exact heap_alloc_new w3 _) rfl rfl rfl HOW.out.one ?_; intro w4 hw4 hs4 hg4; clear hs4; obtain ⟨p4, q0, q1, q2, q3, HR4, HB4, HO4⟩ := HST.out w4 hw4 (Mm.newcell4 (by rw [hy]; exact hg4)); clear hw4 hg4)
        | (refine Mm.wp_store4 _ rfl _ _ rfl r _ _ _ _ _ _ HR4.out rfl rfl rfl HO4.out.one ?_; intro wf hwf hsf hgf; clear hsf; have HWF := Pl.hid hwf; have HGF := Pl.hid hgf; clear hwf hgf))
      refine bodyPost_ret (Mm.res_cell_tmp2 rfl _ wf r _ _ _ _ _ _ rfl HWF.out) rfl ?_
      exact ⟨_, _, _, _, rfl, (HO4.out.keepLo fun g hg hgl => HGF.out.block g hgl (by intro e; cases e; have := HRP.out; omega)).lo HB2.out.size, FIN.out _ _ HR4.out HB4.out HGF.out⟩
  · obtain ⟨g1, g2, g3⟩ := RT.dec_bad HCC.out hc0
    obtain rfl := HCD.out.trans g1
    obtain rfl := HTR.out.trans g2
    obtain rfl : sz = 0 := by have := HSZ.out; rw [g3] at this; exact this
    have hcb : ((cd : Int) == 0) = false := beq_eq_false_iff_ne.2 hc0
    have hcb2 : ((cd : Int) != 0) = true := bne_iff_ne.2 hc0
    clear g1 g2 g3
    go_wp2_with (first
      | (refine Mm.wp_store4 _ rfl _ _ rfl y _ _ _ _ _ _ (by rw [← hy]; exact heap_alloc_new w3 _) rfl rfl rfl HOW.out.one ?_; intro w4 hw4 hs4 hg4; clear hs4; obtain ⟨p4, q0, q1, q2, q3, HR4, HB4, HO4⟩ := HST.out w4 hw4 (Mm.newcell4 (by rw [hy]; exact hg4)); clear hw4 hg4)
      | (refine Mm.wp_store4 _ rfl _ _ rfl r _ _ _ _ _ _ HR4.out rfl rfl rfl Mm.leaf_one ?_; intro wf hwf hsf hgf; clear hsf; have HWF := Pl.hid hwf; have HGF := Pl.hid hgf; clear hwf hgf))
    refine bodyPost_ret (Mm.res_cell_tmp2 rfl _ wf r _ _ _ _ _ _ rfl HWF.out) rfl ?_
    exact ⟨_, _, _, _, rfl, Mm.zero_own _ _, FIN.out _ _ HR4.out HB4.out HGF.out⟩
end Go.Proofs.YtakldjdohgmeiaaDoor

namespace Go.Proofs.YtakldjdohgmeiaaDoor
open Go.RowKit
set_option maxRecDepth 20000

set_option maxHeartbeats 4000000 in
theorem alike_tree (W : World) : ∀ (t : RT), t.sz ≤ 1073741824 → ∀ (c0 c1 c2 c3 d0 d1 d2 d3 : Value), Mm.RepX W t [c0, c1, c2, c3] → Mm.RepX W t [d0, d1, d2, d3] → ∀ w : World, Below W.heap.size W w →
    Calls Tryd.prog 17 #[.agg #[c0, c1, c2, c3], .agg #[d0, d1, d2, d3]] w fun e w' => e = .returned (.bool true) ∧ Below w.heap.size w w' := by
  intro t
  induction t using RT.ind with
  | h k s n l ih =>
    intro hsz c0 c1 c2 c3 d0 d1 d2 d3 hx hy w hb
    obtain ⟨a, cap, hcs, hel⟩ := hx.open
    simp only [List.cons.injEq, and_true] at hcs
    obtain ⟨rfl, rfl, rfl, rfl⟩ := hcs
    obtain ⟨a', cap', hcs, hel'⟩ := hy.open
    simp only [List.cons.injEq, and_true] at hcs
    obtain ⟨rfl, rfl, rfl, rfl⟩ := hcs
    rw [RT.sz_mk] at hsz
    have hlen : l.length < 1073741824 := by have := RT.szL_len l; omega
    have HSZ := Pl.hid hsz
    have IH := Pl.hid ih
    have HB := Pl.hid hb
    have HEL := Pl.hid hel
    have HEL' := Pl.hid hel'
    clear hb ih hel hel' hx hy hsz
    go_enter Tryd.func17, Tryd.ntmps17
    go_wp2_with fail
    generalize hw2 : World.alloc _ _ = w2
    have HP2 : Hid (w2.heap[w.heap.size]? = some (.cells #[.int .i64 k, .string s, .int .i64 n, .slice a l.length cap] 31 (0, 0))) := by
      show _ = _
      rw [← hw2, Below.heap_alloc _ _ _ (by simp)]
      exact heap_alloc_new w _
    have HR2 : Hid (w2.heap[w.heap.size + 1]? = some (.cells #[.int .i64 k, .string s, .int .i64 n, .slice a' l.length cap'] 31 (0, 0))) := by
      show _ = _
      rw [← hw2]
      have := heap_alloc_new (w.alloc (.cells #[.int .i64 k, .string s, .int .i64 n, .slice a l.length cap] 31)) (.cells #[.int .i64 k, .string s, .int .i64 n, .slice a' l.length cap'] 31)
      simpa using this
    have HB2 : Hid (Below w.heap.size w w2) := by rw [← hw2]; exact ((Below.refl _ _).alloc (Nat.le_refl _) _).alloc (by simp) _
    have HS2 : Hid (w2.heap.size = w.heap.size + 2) := by show _ = _; rw [← hw2]; simp
    clear hw2
    have HNX : Hid (w2.cell? ⟨w.heap.size, 0, none⟩ = some (.int .i64 k)) := Mm.cell_of HP2.out rfl
    go_loopw [37] (fun iv wr => ∃ (i : Nat), iv = .int .i64 i ∧ i ≤ l.length ∧ Hid (Below w2.heap.size w2 wr)) (fun iv _ => l.length - (intOf iv).toNat)
    case atStart => exact ⟨0, rfl, Nat.zero_le _, Below.refl _ _⟩
    case round =>
      obtain ⟨i, rfl, hi, HBr⟩ := hrel
      rcases Nat.lt_or_ge i l.length with hlt | hge
      · rcases HEL.out with h0 | ⟨b, rfl, hbl, hel⟩
        · omega
        rcases HEL'.out with h0 | ⟨b', rfl, hbl', hel'⟩
        · omega
        obtain ⟨f0, f1, f2, f3, h0, h1, h2, h3, hrep⟩ := hel i hlt
        obtain ⟨g0, g1, g2, g3, h0', h1', h2', h3', hrep'⟩ := hel' i hlt
        have HBW : Hid (Below W.heap.size W wr) := HB.out.trans ((HB2.out.trans (HBr.out.mono HB2.out.size)).mono HB.out.size)
        have r0 : wr.cell? ⟨b, i * 4, none⟩ = some f0 := (HBW.out.cell (p := ⟨b, i * 4, none⟩) hbl).trans h0
        have r1 : wr.cell? ⟨b, i * 4 + 1, none⟩ = some f1 := (HBW.out.cell (p := ⟨b, i * 4 + 1, none⟩) hbl).trans h1
        have r2 : wr.cell? ⟨b, i * 4 + 2, none⟩ = some f2 := (HBW.out.cell (p := ⟨b, i * 4 + 2, none⟩) hbl).trans h2
        have r3 : wr.cell? ⟨b, i * 4 + 3, none⟩ = some f3 := (HBW.out.cell (p := ⟨b, i * 4 + 3, none⟩) hbl).trans h3
        have s0 : wr.cell? ⟨b', i * 4, none⟩ = some g0 := (HBW.out.cell (p := ⟨b', i * 4, none⟩) hbl').trans h0'
        have s1 : wr.cell? ⟨b', i * 4 + 1, none⟩ = some g1 := (HBW.out.cell (p := ⟨b', i * 4 + 1, none⟩) hbl').trans h1'
        have s2 : wr.cell? ⟨b', i * 4 + 2, none⟩ = some g2 := (HBW.out.cell (p := ⟨b', i * 4 + 2, none⟩) hbl').trans h2'
        have s3 : wr.cell? ⟨b', i * 4 + 3, none⟩ = some g3 := (HBW.out.cell (p := ⟨b', i * 4 + 3, none⟩) hbl').trans h3'
        have p3 : wr.cell? ⟨w.heap.size, 3, none⟩ = some (.slice (some ⟨b, 0, none⟩) l.length cap) := (HBr.out.cell (p := ⟨w.heap.size, 3, none⟩) (by have := HS2.out; show w.heap.size < w2.heap.size; omega)).trans (Mm.cell_of HP2.out rfl)
        have q3 : wr.cell? ⟨w.heap.size + 1, 3, none⟩ = some (.slice (some ⟨b', 0, none⟩) l.length cap') := (HBr.out.cell (p := ⟨w.heap.size + 1, 3, none⟩) (by have := HS2.out; show w.heap.size + 1 < w2.heap.size; omega)).trans (Mm.cell_of HR2.out rfl)
        have HREP := Pl.hid hrep
        have HREP' := Pl.hid hrep'
        have HLN : Hid ((l[i]'hlt).sz ≤ 1073741824) := by have := RT.szL_mem (List.getElem_mem hlt); have := HSZ.out; show _ ≤ _; omega
        clear h0 h1 h2 h3 h0' h1' h2' h3' hrep hrep' hel hel'
        go_wp2_with fail
        go_region_law (go_simp; go_at_call 17; (refine (IH.out _ (List.getElem_mem hlt) HLN.out f0 f1 f2 f3 g0 g1 g2 g3 HREP.out HREP'.out _ (by first | exact HBW.out | exact HBW.out.drew)).mono ?_; rintro e w5 ⟨rfl, hb5⟩; have HB5 := Pl.hid hb5; clear hb5))
        all_goals
          clear r0 r1 r2 r3 s0 s1 s2 s3 p3 q3
          go_wp2_with fail
          have HB6 : Below wr.heap.size wr w5 := by first | exact HB5.out | exact Mm.undrew HB5.out
          exact ⟨⟨i + 1, by go_num, hlt, HBr.out.trans (HB6.mono HBr.out.size)⟩, by simp [intOf]; omega⟩
      · obtain rfl : i = l.length := by omega
        go_wp2_with fail
        go_ret
        exact ⟨rfl, HB2.out.trans (HBr.out.mono HB2.out.size)⟩
end Go.Proofs.YtakldjdohgmeiaaDoor

namespace Go.Proofs.YtakldjdohgmeiaaDoor
open Go.RowKit
set_option maxRecDepth 20000

namespace RT
open Pl
/-- how Encode goes -/
def code (t : RT) : Int := if t.ok = false then 160 else if 8 < t.depth then 161 else if 16777216 < t.enc.length then 2 else 0
/-- and what it writes -/
def out (t : RT) : List UInt8 := if t.ok = false then [] else if 8 < t.depth then [] else if 16777216 < t.enc.length then [] else t.enc
theorem co_bad {t : RT} (h : t.ok = false) : code t = 160 ∧ out t = [] := by simp [code, out, h]
theorem co_deep {t : RT} (h : t.ok = true) (h2 : 8 < t.depth) : code t = 161 ∧ out t = [] := by simp [code, out, h, h2]
theorem co_long {t : RT} (h : t.ok = true) (h2 : ¬ 8 < t.depth) (h3 : 16777216 < t.enc.length) : code t = 2 ∧ out t = [] := by simp only [code, out, h, h2, h3, if_true, if_false]; simp
theorem co_good {t : RT} (h : t.ok = true) (h2 : ¬ 8 < t.depth) (h3 : ¬ 16777216 < t.enc.length) : code t = 0 ∧ out t = t.enc := by simp only [code, out, h, h2, h3, if_true, if_false]; simp
end RT

set_option maxHeartbeats 4000000 in
theorem encode_walk (W : World) (hT : Mm.Tab W) (t : RT) (hin : t.In) (hsz : t.sz ≤ 1073741824) (c0 c1 c2 c3 : Value) (hX : Mm.RepX W t [c0, c1, c2, c3]) (w : World) (hW : Below W.heap.size W w) :
    Calls Tryd.prog 12 #[.agg #[c0, c1, c2, c3]] w fun e w' => ∃ v', e = .returned (.tuple #[v', .int .i64 t.code]) ∧ Mm.OwnB w' w.heap.size v' t.out ∧ Below w.heap.size w w' := by
  obtain ⟨p, hp⟩ : ∃ p, p = w.heap.size := ⟨_, rfl⟩
  obtain ⟨w0, hw0⟩ : ∃ w0, w0 = w.alloc (.cells #[c0, c1, c2, c3] 31) := ⟨_, rfl⟩
  have HB0 : Hid (Below w.heap.size w w0) := by rw [hw0]; exact (Below.refl _ _).alloc (Nat.le_refl _) _
  have HK : Hid (∀ V, Below w0.heap.size w0 V → ∀ i u, (#[c0, c1, c2, c3] : Array Value)[i]? = some u → V.cell? ⟨p, i, none⟩ = some u) := fun V hV i u hu => by
    have h0 : w0.cell? ⟨p, i, none⟩ = some u := by rw [hw0, hp, World.cell?_alloc_mark]; exact hu
    exact (hV.cell (p := ⟨p, i, none⟩) (World.block_lt_of_cell? _ _ h0)).trans h0
  have HW0eq := Pl.hid hw0
  have HPeq := Pl.hid hp
  have HWW : Hid (∀ V, Below w0.heap.size w0 V → Below W.heap.size W V) := fun V hV => hW.trans ((HB0.out.trans (hV.mono HB0.out.size)).mono hW.size)
  have HX := Pl.hid hX
  have HT := Pl.hid hT
  have HIN := Pl.hid hin
  have HSZ := Pl.hid hsz
  have HEL := Pl.hid (RT.enc_le t hin hsz)
  have hk := HK.out w0 (Below.refl _ _)
  have k0 := hk 0 _ rfl
  have k1 := hk 1 _ rfl
  have k2 := hk 2 _ rfl
  have k3 := hk 3 _ rfl
  have hone := HX.out.one
  have o0 := hone c0 (by simp)
  have o1 := hone c1 (by simp)
  have o2 := hone c2 (by simp)
  have o3 := hone c3 (by simp)
  clear hw0 hp hk hT hX hin hsz hW
  go_enter Tryd.func12, Tryd.ntmps12
  go_wp2_with fail
  rw [← HW0eq.out]
  refine (looked_walk W t HSZ.out c0 c1 c2 c3 HX.out w0 (HWW.out _ (Below.refl _ _))).mono ?_
  rintro e w1 ⟨rfl, hb1⟩
  have HB1 := Pl.hid hb1
  rw [← HPeq.out]
  clear hb1 k0 k1 k2 k3
  have hk := HK.out w1 HB1.out
  have k0 := hk 0 _ rfl
  have k1 := hk 1 _ rfl
  have k2 := hk 2 _ rfl
  have k3 := hk 3 _ rfl
  clear hk
  cases hok : t.ok
  · have HC := Pl.hid (RT.co_bad hok)
    clear hok
    go_wp2_with fail
    go_ret2
    rw [HC.out.1, HC.out.2]
    exact ⟨_, rfl, Mm.ownB_nil _ _, HB0.out.trans (HB1.out.mono HB0.out.size)⟩
  · rw [RT.lookD_ok hok]
    obtain ⟨D, hD⟩ : ∃ D, D = t.depth := ⟨_, rfl⟩
    rw [← hD]
    by_cases hdd : 8 < D
    · have HC := Pl.hid (RT.co_deep hok (by rw [← hD]; exact hdd))
      clear hok hD
      go_wp2_with fail
      go_ret2
      rw [HC.out.1, HC.out.2]
      exact ⟨_, rfl, Mm.ownB_nil _ _, HB0.out.trans (HB1.out.mono HB0.out.size)⟩
    · have HOK := Pl.hid hok
      have HD := Pl.hid hD
      clear hok hD
      go_wp2_with fail
      refine (size_walk W HT.out t HOK.out HIN.out HSZ.out c0 c1 c2 c3 HX.out w1 (HWW.out _ HB1.out)).mono ?_
      rintro e w2 ⟨rfl, hb2⟩
      have HB2 := Pl.hid (HB1.out.trans (hb2.mono HB1.out.size))
      clear hb2 k0 k1 k2 k3
      have hk := HK.out w2 HB2.out
      have k0 := hk 0 _ rfl
      have k1 := hk 1 _ rfl
      have k2 := hk 2 _ rfl
      have k3 := hk 3 _ rfl
      clear hk
      obtain ⟨N, hN⟩ : ∃ N, N = t.enc.length := ⟨_, rfl⟩
      rw [← hN]
      by_cases hnn : 16777216 < N
      · have HC := Pl.hid (RT.co_long HOK.out (by rw [← HD.out]; exact hdd) (by rw [← hN]; exact hnn))
        clear hN
        go_wp2_with fail
        go_ret2
        rw [HC.out.1, HC.out.2]
        exact ⟨_, rfl, Mm.ownB_nil _ _, HB0.out.trans (HB2.out.mono HB0.out.size)⟩
      · have HC := Pl.hid (RT.co_good HOK.out (by rw [← HD.out]; exact hdd) (by rw [← hN]; exact hnn))
        have HN := Pl.hid hN
        clear hN
        go_wp2_with fail
        refine (lay_walk W HT.out t HOK.out HIN.out HSZ.out c0 c1 c2 c3 HX.out w2.heap.size (.slice none 0 0) [] w2 (HWW.out _ HB2.out) (Below.size (HWW.out _ HB2.out)) (Nat.le_refl _) (Mm.ownB_nil _ _) (by have := HN.out; simp only [List.length_nil]; omega)).mono ?_
        rintro e w3 ⟨v3, rfl, ho3, hb3, _⟩
        have HO3 := Pl.hid ho3
        have HB3 := Pl.hid hb3
        clear ho3 hb3 k0 k1 k2 k3
        go_wp2_with fail
        go_ret2
        have h2 : w.heap.size ≤ w2.heap.size := Nat.le_trans HB0.out.size HB2.out.size
        rw [HC.out.1, HC.out.2]
        have ho := HO3.out
        rw [List.nil_append] at ho
        exact ⟨v3, rfl, ho.base0 h2, (HB0.out.trans (HB2.out.mono HB0.out.size)).trans (HB3.out.mono h2)⟩
end Go.Proofs.YtakldjdohgmeiaaDoor
