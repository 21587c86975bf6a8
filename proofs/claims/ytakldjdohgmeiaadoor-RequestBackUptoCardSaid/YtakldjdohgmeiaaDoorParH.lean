/- A parser's part: Go's part; what a step does to the state, in plain Lean. Conditions stand in each law. -/
import Derived.Test.YtakldjdohgmeiaaDoorParG
namespace Go.Proofs.YtakldjdohgmeiaaDoor
open Go.RowKit
set_option maxRecDepth 20000

namespace Pl
/-- a state that a parser may be in -/
def okP (st : Pst) : Prop := -1 ≤ st.need ∧ st.need ≤ 1048576 ∧ st.left ≤ 1024 ∧ (0 ≤ st.need → 0 < st.left) ∧ (st.err = false → st.size ≤ 4194304)
def bnd (st : Pst) (U : Nat) : Prop := st.used ≤ U ∧ st.words.length ≤ U ∧ st.ready.length ≤ U
theorem okP_fresh : okP fresh := by unfold okP fresh; simp
theorem count_ok {st : Pst} {l : List UInt8} (h : okP st) (_ : st.need < 0) (he : st.err = false) : okP (countM st l).2 ∧ (countM st l).1 ≤ l.length ∧ ∀ U, bnd st U → bnd (countM st l).2 (U + (countM st l).1) := by
  obtain ⟨h1, h2, h3, h4, h5⟩ := h
  unfold countM
  cases hq : numM l (-1) 1024 with
  | mk q e =>
  cases q with
  | none => exact ⟨⟨h1, h2, h3, h4, fun _ => h5 he⟩, Nat.zero_le _, fun U hU => hU⟩
  | some nk =>
    obtain ⟨n, k⟩ := nk
    obtain ⟨g1, g2, g3, g4, g5⟩ := numM_in hq
    simp only
    split
    · refine ⟨⟨h1, h2, ?_, fun _ => ?_, fun _ => ?_⟩, g5, fun U hU => ⟨?_, ?_, ?_⟩⟩
      · show n.toNat ≤ 1024; omega
      · show 0 < n.toNat; omega
      · show 0 ≤ 4194304; omega
      · show k ≤ U + k; omega
      · exact Nat.zero_le _
      · have := hU.2.2; show st.ready.length ≤ U + k; omega
    · exact ⟨⟨h1, h2, h3, h4, h5⟩, g5, fun U hU => ⟨by have := hU.1; omega, by have := hU.2.1; omega, by have := hU.2.2; omega⟩⟩
theorem length_ok {st : Pst} {l : List UInt8} (h : okP st) (hl : 0 < st.left) (he : st.err = false) : okP (lengthM st l).2 ∧ (lengthM st l).1 ≤ l.length ∧ ∀ U, bnd st U → bnd (lengthM st l).2 (U + (lengthM st l).1) := by
  obtain ⟨h1, h2, h3, h4, h5⟩ := h
  unfold lengthM
  split
  · exact ⟨⟨h1, h2, h3, h4, fun e => by cases e⟩, Nat.zero_le _, fun U hU => hU⟩
  · cases hq : numM l 0 1048576 with
    | mk q e =>
    cases q with
    | none => exact ⟨⟨h1, h2, h3, h4, fun _ => h5 he⟩, Nat.zero_le _, fun U hU => hU⟩
    | some nk =>
      obtain ⟨n, k⟩ := nk
      obtain ⟨g1, g2, g3, g4, g5⟩ := numM_in hq
      simp only
      split
      · exact ⟨⟨h1, h2, h3, h4, fun e => by cases e⟩, Nat.zero_le _, fun U hU => hU⟩
      · refine ⟨⟨?_, g2, h3, fun _ => hl, fun _ => ?_⟩, g5, fun U hU => ⟨?_, ?_, ?_⟩⟩
        · show -1 ≤ n; omega
        · show st.size + n.toNat ≤ 4194304; omega
        · have := hU.1; show st.used + k ≤ U + k; omega
        · have := hU.2.1; show st.words.length ≤ U + k; omega
        · have := hU.2.2; show st.ready.length ≤ U + k; omega
theorem word_ok {st : Pst} {l : List UInt8} (h : okP st) (_ : st.err = false) : okP (wordM st l).2 ∧ (wordM st l).1 ≤ l.length ∧ ∀ U, bnd st U → bnd (wordM st l).2 (U + (wordM st l).1) := by
  obtain ⟨h1, h2, h3, h4, h5⟩ := h
  unfold wordM
  split
  · exact ⟨⟨h1, h2, h3, h4, fun e => by cases e⟩, Nat.zero_le _, fun U hU => hU⟩
  · split
    · exact ⟨⟨h1, h2, h3, h4, h5⟩, Nat.zero_le _, fun U hU => hU⟩
    · rename_i hlen
      simp only
      split
      · refine ⟨⟨by show (-1 : Int) ≤ -1; omega, by show (-1 : Int) ≤ 1048576; omega, Nat.zero_le _, fun e => absurd e (by show ¬ (0 : Int) ≤ -1; omega), h5⟩, by omega, fun U hU => ⟨Nat.zero_le _, Nat.zero_le _, ?_⟩⟩
        have := hU.2.2
        simp
        omega
      · refine ⟨⟨by show (-1 : Int) ≤ -1; omega, by show (-1 : Int) ≤ 1048576; omega, by show st.left - 1 ≤ 1024; omega, fun e => absurd e (by show ¬ (0 : Int) ≤ -1; omega), h5⟩, by omega, fun U hU => ⟨?_, ?_, ?_⟩⟩
        · have := hU.1; show st.used + (st.need.toNat + 2) ≤ U + (st.need.toNat + 2); omega
        · have := hU.2.1; simp; omega
        · have := hU.2.2; show st.ready.length ≤ U + (st.need.toNat + 2); omega
theorem inline_okP {st : Pst} {l : List UInt8} (h : okP st) (he : st.err = false) : okP (inlineM st l).2 ∧ (inlineM st l).1 ≤ l.length ∧ ∀ U, bnd st U → bnd (inlineM st l).2 (U + (inlineM st l).1) := by
  obtain ⟨h1, h2, h3, h4, h5⟩ := h
  cases hq : lineM l 4096 with
  | none => rw [inlineM_none hq]; exact ⟨⟨h1, h2, h3, h4, fun _ => h5 he⟩, Nat.zero_le _, fun U hU => hU⟩
  | some t =>
    obtain ⟨_, _, _, ht, _⟩ := lineM_some hq
    cases hi : inl 4098 (cutM t) [] with
    | mk k ws =>
    cases k with
    | zero =>
      rw [inlineM_ok hq hi]
      simp only
      split
      · exact ⟨⟨h1, h2, h3, h4, h5⟩, ht, fun U hU => ⟨by have := hU.1; omega, by have := hU.2.1; omega, by have := hU.2.2; omega⟩⟩
      · refine ⟨⟨h1, h2, h3, h4, h5⟩, ht, fun U hU => ⟨?_, ?_, ?_⟩⟩
        · have := hU.1; show st.used ≤ U + (t.length + 1); omega
        · have := hU.2.1; show st.words.length ≤ U + (t.length + 1); omega
        · have := hU.2.2; simp; omega
    | succ k =>
      rw [inlineM_bad hq (by rw [hi]; simp)]
      exact ⟨⟨h1, h2, h3, h4, fun e => by cases e⟩, Nat.zero_le _, fun U hU => hU⟩
theorem part_ok {st : Pst} {l : List UInt8} (h : okP st) (he : st.err = false) : okP (partM st l).2 ∧ (partM st l).1 ≤ l.length ∧ ∀ U, bnd st U → bnd (partM st l).2 (U + (partM st l).1) := by
  unfold partM
  split
  · exact ⟨h, Nat.zero_le _, fun U hU => hU⟩
  · split
    · exact word_ok h he
    · split
      · rename_i hl; exact length_ok h hl he
      · split
        · exact count_ok h (by omega) he
        · exact inline_okP h he
end Pl

set_option maxHeartbeats 4000000 in
theorem part_walk (p : Nat) (v : Value) (l : List UInt8) (bv : Value) (st : Pl.Pst) (F : Nat → Prop) (W w : World) (hpW : W.heap.size ≤ p) (hR : Mm.RErr W) (hE : Mm.Errs W) (hI : Mm.InlE W) (hW : Below W.heap.size W w) (hl : l.length ≤ 140737488351232) (hv : Mm.Rest w v l)
    (hp : Mm.PQ w p bv st F) (he : st.err = false) (hok : Pl.okP st) (U : Nat) (hb : Pl.bnd st U) (hU : U ≤ 1099511627776) :
    Calls Tryd.prog 59 #[.pointer (some ⟨p, 0, none⟩), v] w fun e w' => e = .returned (.int .i64 ((Pl.partM st l).1 : Int)) ∧ ∃ F', Mm.PQ w' p bv (Pl.partM st l).2 F' ∧ Mm.Chg w F w' F' := by
  obtain ⟨a, c, rfl, hc, hbytes⟩ := hv
  obtain ⟨h1, h2, h3, h4, h5⟩ := hok
  obtain ⟨b1, b2, b3⟩ := hb
  unfold Pl.partM
  rcases Nat.eq_zero_or_pos l.length with h0 | h0
  · obtain rfl : l = [] := List.eq_nil_of_length_eq_zero h0
    rw [if_pos rfl]
    have HP := Pl.hid hp
    clear hR hE hI hW hp h4 h5 hbytes hpW
    go_enter Tryd.func59, Tryd.ntmps59
    go_wp2_with fail
    go_ret
    exact ⟨rfl, F, HP.out, Mm.Chg.refl _ _⟩
  · rw [if_neg (fun e => by rw [e] at h0; exact absurd h0 (by simp))]
    obtain ⟨g, o, rfl, hm⟩ := hbytes h0
    have hpv := hp
    obtain ⟨wv, rv, ev, rows, hv, hF⟩ := hpv
    have c5 := hv.cell 5 (.int .i64 st.need) rfl
    have c3 := hv.cell 3 (.int .i64 (st.left : Int)) rfl
    have c0 := hm 0 h0
    rw [Nat.add_zero] at c0
    have hlz : ¬ ((l.length : Int) = 0) := by omega
    clear hv hF
    rcases Int.lt_or_le st.need 0 with hn | hn
    · rw [if_neg (by omega)]
      rcases Nat.eq_zero_or_pos st.left with hf | hf
      · rw [if_neg (by omega)]
        have hl0 : (st.left : Int) = 0 := by omega
        rw [hl0] at c3
        rcases Decidable.em (l.head? = some 42) with h42 | h42
        · rw [if_pos h42]
          have HC := Pl.hid (count_walk p g o c l bv st F W w hR hE hW hl hc h0 hm hp he)
          have hq : (Pl.at_ l 0 == 42) = true := by
            cases l with
            | nil => exact absurd h0 (by simp)
            | cons d l =>
              injection h42 with h42
              subst h42
              rfl
          generalize Pl.at_ l 0 = a0 at c0 hq
          clear hR hE hI hW hp hm h42 h4 h5 he hl0 hf hpW
          go_enter Tryd.func59, Tryd.ntmps59
          go_wp2_with fail
          refine HC.out.mono ?_
          rintro e w1 ⟨rfl, F', hp1, hg1⟩
          have HP1 := Pl.hid hp1
          have HG1 := Pl.hid hg1
          clear hp1 hg1 c5 c3 c0 hq
          go_wp2_with fail
          go_ret
          exact ⟨rfl, F', HP1.out, HG1.out⟩
        · rw [if_neg h42]
          have HC := Pl.hid (pinline_walk p g o c l bv st F W w hpW hR hI hW hl hc h0 hm hp he (by omega))
          have hq : (Pl.at_ l 0 == 42) = false := by
            refine beq_eq_false_iff_ne.2 fun e => h42 ?_
            cases l with
            | nil => exact absurd h0 (by simp)
            | cons d l => exact congrArg some (UInt8.toNat_inj.1 (by have : ((d.toNat : Nat) : Int) = 42 := e; show d.toNat = 42; omega))
          generalize Pl.at_ l 0 = a0 at c0 hq
          clear hR hE hI hW hp hm h42 h4 h5 he hl0 hf hpW
          go_enter Tryd.func59, Tryd.ntmps59
          go_wp2_with fail
          refine HC.out.mono ?_
          rintro e w1 ⟨rfl, F', hp1, hg1⟩
          have HP1 := Pl.hid hp1
          have HG1 := Pl.hid hg1
          clear hp1 hg1 c5 c3 c0 hq
          go_wp2_with fail
          go_ret
          exact ⟨rfl, F', HP1.out, HG1.out⟩
      · rw [if_pos hf]
        have HC := Pl.hid (length_walk p g o c l bv st F W w hpW hR hE hW hl hc h0 hm hp he (h5 he) (by omega))
        clear hR hE hI hW hp hm h4 h5 he c0 hpW
        go_enter Tryd.func59, Tryd.ntmps59
        go_wp2_with fail
        refine HC.out.mono ?_
        rintro e w1 ⟨rfl, F', hp1, hg1⟩
        have HP1 := Pl.hid hp1
        have HG1 := Pl.hid hg1
        clear hp1 hg1 c5 c3
        go_wp2_with fail
        go_ret
        exact ⟨rfl, F', HP1.out, HG1.out⟩
    · rw [if_pos hn]
      have HC := Pl.hid (word_walk p g o c l bv st F W w hpW hR hW hl hc hm hp he hn h2 (h4 hn) h3 (by omega) (by omega) (by omega))
      clear hR hE hI hW hp hm h4 h5 he c0 hpW c3
      go_enter Tryd.func59, Tryd.ntmps59
      go_wp2_with fail
      refine HC.out.mono ?_
      rintro e w1 ⟨rfl, F', hp1, hg1⟩
      have HP1 := Pl.hid hp1
      have HG1 := Pl.hid hg1
      clear hp1 hg1 c5
      go_wp2_with fail
      go_ret
      exact ⟨rfl, F', HP1.out, HG1.out⟩
end Go.Proofs.YtakldjdohgmeiaaDoor
