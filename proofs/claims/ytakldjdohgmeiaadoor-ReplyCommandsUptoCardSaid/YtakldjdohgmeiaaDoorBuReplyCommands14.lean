/- The makers of arrays of replies. Conditions stand in each law. What is read from the left of bytes: a right reply that is broken off is too short; what pantrylaw16's plain makes of a reply; plain Lean. Conditions stand in each law. pantrylaw16's wakes. Conditions stand in the law. pantrylaw16.ReplyForm: the law's walk. Conditions stand in each law. Plain: a command as a reply: an array of bulks. No program in sight. Conditions stand in each law. -/
import Derived.Test.YtakldjdohgmeiaaDoorBuReplyCommands12
import Derived.Test.YtakldjdohgmeiaaDoorBuReplyCommands4
import Derived.Test.YtakldjdohgmeiaaDoorBuReplyCommands13
import Derived.Lib.SlBytesConst
import Derived.Test.YtakldjdohgmeiaaDoorBuReplyCommands5
import Derived.Test.YtakldjdohgmeiaaDoorBuReplyCommands9
namespace Go.Proofs.YtakldjdohgmeiaaDoor
open Go.RowKit
set_option maxRecDepth 20000

namespace Mm
open Pl
theorem RowB.len {w : World} : ∀ {ts : List RT} {xs : List Value} {bs : List Nat}, RowB w ts xs bs → xs.length = ts.length * 4
  | _, _, _, .nil => rfl
  | _, _, _, .cons t ts cs xs bs bs' h hr => by
    obtain ⟨c0, c1, c2, c3, rfl, _⟩ := h.four
    have := hr.len
    simp only [List.length_append, List.length_cons, List.length_nil, this]
    omega
theorem RowB.one {w : World} : ∀ {ts : List RT} {xs : List Value} {bs : List Nat}, RowB w ts xs bs → ∀ u ∈ xs, u.oneCell' = true
  | _, _, _, .nil, u, hu => by cases hu
  | _, _, _, .cons t ts cs xs bs bs' h hr, u, hu => by
    rcases List.mem_append.1 hu with hu | hu
    · obtain ⟨_, _, _, _, _, h1⟩ := h.four
      exact h1 u hu
    · exact hr.one u hu
/-- 'append(x, y...)', x an empty row of one's own: a row like y -/
theorem wp_appN {ops : Array Oper} {rest : List Oper} {o : Oper} {a : Act} {Q : Exit → Act → World → Prop} (w : World) (hgd : o.guard = none) (x y : Operand)
    (ho : o.op = .call { callee := .builtin .append, args := #[x, y], argTypes := #[29, 29] })
    (lo : Nat) (v : Value) (ad : Addr) (m c : Nat) (xs : List Value) (hx : a.eval x = v) (hy : a.eval y = .slice (some ad) m c) (h : w.ownsRow lo 31 4 v 0 []) (hlo : lo ≤ w.heap.size)
    (hl : xs.length = m * 4) (hc : ∀ j u, xs[j]? = some u → w.cell? (ad.add j) = some u) (h1 : ∀ u ∈ xs, u.oneCell' = true) (hm : m ≤ 1073741824)
    (hK : ∀ v' w', w'.ownsRow lo 31 4 v' m xs → w.grownBy w' v.ownBlock → wpList Tryd.prog ops Q rest (a.put o.dst v') w') :
    wpList Tryd.prog ops Q (o :: rest) a w := by
  obtain ⟨i0, hi, hz0, hz1, hz2⟩ := info_parts Tryd.info_rep
  obtain ⟨v1, w1, hr1, o1, g1, _, _⟩ := run_append_own_at (P := Tryd.prog) w lo 29 o.type 31 i0 (.agg #[.int .i64 0, .string ⟨#[]⟩, .int .i64 0, .slice none 0 0]) 4 56 Tryd.underlying29 hi hz0 hz1 hz2 rfl (by decide) v 0 [] h ad m c xs hl hc h1 (by unfold maxLen; omega) (by omega) hlo
  refine wpList_plain hgd fun K hK' => ?_
  unfold Oper.wp execOp
  simp only [ho, resolve, invoke, builtin, Sem.run_bind, Sem.run_pure, Result.andThen_ok, List.map_toArray, List.map_cons, List.map_nil, hx, hy, hr1]
  refine hK' _ _ (hK _ _ ?_ g1)
  simpa using o1
theorem row_slice {w : World} {lo : Nat} {e : TypeId} {z n : Nat} {v : Value} {xs : List Value} (h : w.ownsRow lo e z v n xs) : ∃ a k c, v = .slice a k c := by
  rcases h.2 with ⟨h, _⟩ | ⟨_, _, _, h, _⟩ <;> exact ⟨_, _, _, h⟩
end Mm

set_option maxHeartbeats 4000000 in
/-- reply.Array: a reply whose list has the cells of the one handed in -/
theorem array_walk (w : World) (ad : Addr) (m c : Nat) (xs : List Value) (hl : xs.length = m * 4) (hc : ∀ j u, xs[j]? = some u → w.cell? (ad.add j) = some u) (h1 : ∀ u ∈ xs, u.oneCell' = true) (hm : m ≤ 1073741824) :
    Calls Tryd.prog 24 #[.slice (some ad) m c] w fun e w' => ∃ v', e = .returned (.agg #[.int .i64 6, .string ⟨#[]⟩, .int .i64 0, v']) ∧ w'.ownsRow w.heap.size 31 4 v' m xs ∧ Below w.heap.size w w' := by
  obtain ⟨w1, hw1⟩ : ∃ w1, w.alloc (.cells #[.int .i64 0, .string ⟨#[]⟩, .int .i64 0, .slice none 0 0] 31) = w1 := ⟨_, rfl⟩
  obtain ⟨r, hr⟩ : ∃ r, w.heap.size = r := ⟨_, rfl⟩
  have HR1 : Hid (w1.heap[r]? = some (.cells #[.int .i64 0, .string ⟨#[]⟩, .int .i64 0, .slice none 0 0] 31 (0, 0))) := by show _ = _; rw [← hw1, ← hr]; exact heap_alloc_new w _
  have HB1 : Hid (Below w.heap.size w w1) := by rw [← hw1]; exact (Below.refl _ _).alloc (Nat.le_refl _) _
  have HRL : Hid (r < w1.heap.size ∧ w.heap.size = r ∧ w.heap.size ≤ w1.heap.size) := ⟨(Array.getElem?_eq_some_iff.1 HR1.out).1, hr, HB1.out.size⟩
  have HC : Hid (∀ j u, xs[j]? = some u → w1.cell? (ad.add j) = some u) := fun j u hj => by
    have := hc j u hj
    exact (HB1.out.cell (World.block_lt_of_cell? _ _ this)).trans this
  have HL := Pl.hid hl
  have H1 := Pl.hid h1
  clear hc hl h1
  go_enter Tryd.func24, Tryd.ntmps24
  go_wp2_with (first
    | (at_builtin; refine Mm.wp_appN w1 rfl _ _ (by rfl) w1.heap.size (.slice none 0 0) ad m c xs (by rfl) (by rfl) ⟨rfl, .inl ⟨rfl, rfl⟩⟩ (Nat.le_refl _) HL.out HC.out H1.out hm ?_; intro v2 w2 ho2 hg2; have HO2 := Pl.hid ho2; have HB2 := Pl.hid ((Below.refl w1.heap.size w1).grown hg2 (Nat.le_refl _) (fun k hk => by cases hk)); clear ho2 hg2; obtain ⟨va, vn, vk, rfl⟩ := Mm.row_slice HO2.out)
    | (refine Mm.wp_store4 _ rfl _ _ rfl r _ _ _ _ _ _ ((HB2.out.block r HRL.out.1).trans HR1.out) rfl rfl rfl (by intro u hu; simp only [List.mem_cons, List.mem_nil_iff, or_false] at hu; rcases hu with rfl | rfl | rfl | rfl <;> rfl) ?_; intro wf hwf hsf hgf; clear hsf; have HWF := Pl.hid hwf; have HGF := Pl.hid hgf; clear hwf hgf))
  refine bodyPost_ret (Mm.res_cell rfl _ wf r _ _ _ _ _ _ rfl HWF.out) rfl ?_
  have hrl := HRL.out
  refine ⟨_, rfl, ?_, (HB1.out.trans (HB2.out.mono HB1.out.size)).grown HGF.out (Nat.le_trans HB1.out.size HB2.out.size) (fun k hk => by injection hk with hk; omega)⟩
  have h2 := Mm.ownsRowR_keep HO2.out (w' := wf) (fun g hg => HGF.out.block g (Mm.ownsRow_lt HO2.out hg) (fun e => by
    injection e with e
    rcases HO2.out.2 with ⟨e', _⟩ | ⟨g', cap, cur, e', hle, _⟩
    · rw [e'] at hg; cases hg
    · rw [e'] at hg
      injection hg with hg
      have hg : g' = g := hg
      omega))
  exact ⟨h2.1, by
    rcases h2.2 with h | ⟨g', cap, cur, e', hle, r⟩
    · exact .inl h
    · exact .inr ⟨g', cap, cur, e', by omega, r⟩⟩

set_option maxHeartbeats 4000000 in
/-- pantryref16.Array: a reply whose list has the cells of the one handed in -/
theorem rarray_walk (w : World) (ad : Addr) (m c : Nat) (xs : List Value) (hl : xs.length = m * 4) (hc : ∀ j u, xs[j]? = some u → w.cell? (ad.add j) = some u) (h1 : ∀ u ∈ xs, u.oneCell' = true) (hm : m ≤ 1073741824) :
    Calls Tryd.prog 25 #[.slice (some ad) m c] w fun e w' => ∃ v', e = .returned (.agg #[.int .i64 6, .string ⟨#[]⟩, .int .i64 0, v']) ∧ w'.ownsRow w.heap.size 31 4 v' m xs ∧ Below w.heap.size w w' := by
  obtain ⟨w1, hw1⟩ : ∃ w1, w.alloc (.cells #[.int .i64 0, .string ⟨#[]⟩, .int .i64 0, .slice none 0 0] 31) = w1 := ⟨_, rfl⟩
  obtain ⟨w2, hw2⟩ : ∃ w2, w1.alloc (.cells #[] 31) = w2 := ⟨_, rfl⟩
  obtain ⟨r, hr⟩ : ∃ r, w.heap.size = r := ⟨_, rfl⟩
  obtain ⟨p, hp⟩ : ∃ p, w1.heap.size = p := ⟨_, rfl⟩
  have HB1 : Hid (Below w.heap.size w w1) := by rw [← hw1]; exact (Below.refl _ _).alloc (Nat.le_refl _) _
  have HB12 : Hid (Below w1.heap.size w1 w2) := by rw [← hw2]; exact (Below.refl _ _).alloc (Nat.le_refl _) _
  have HR1 : Hid (w1.heap[r]? = some (.cells #[.int .i64 0, .string ⟨#[]⟩, .int .i64 0, .slice none 0 0] 31 (0, 0))) := by show _ = _; rw [← hw1, ← hr]; exact heap_alloc_new w _
  have HRL : Hid (r < p ∧ w.heap.size = r ∧ w1.heap.size = p ∧ p < w2.heap.size) := ⟨by rw [← hp]; exact (Array.getElem?_eq_some_iff.1 HR1.out).1, hr, hp, by rw [← hw2, ← hp]; simp⟩
  have HR2 : Hid (w2.heap[r]? = some (.cells #[.int .i64 0, .string ⟨#[]⟩, .int .i64 0, .slice none 0 0] 31 (0, 0))) := (HB12.out.block r (by have := HRL.out; omega)).trans HR1.out
  have HE2 : Hid (w2.ownsRow p 31 4 (.slice (some ⟨p, 0, none⟩) 0 0) 0 []) := ⟨rfl, .inr ⟨p, 0, #[], rfl, Nat.le_refl _, by rw [← hw2, ← hp]; exact heap_alloc_new w1 _, Nat.le_refl _, by decide, rfl, rfl⟩⟩
  have HC : Hid (∀ j u, xs[j]? = some u → w2.cell? (ad.add j) = some u) := fun j u hj => by
    have h := hc j u hj
    have h' := (HB1.out.cell (World.block_lt_of_cell? _ _ h)).trans h
    exact (HB12.out.cell (World.block_lt_of_cell? _ _ h')).trans h'
  have HL := Pl.hid hl
  have H1 := Pl.hid h1
  have HP2 : Hid (p ≤ w2.heap.size) := by have := HRL.out; show _ ≤ _; omega
  clear hc hl h1 HR1
  go_enter Tryd.func25, Tryd.ntmps25
  go_wp2_with (first
    | (at_builtin; refine Mm.wp_appN w2 rfl _ _ (by rfl) p (.slice (some ⟨p, 0, none⟩) 0 0) ad m c xs (by rfl) (by rfl) HE2.out HP2.out HL.out HC.out H1.out hm ?_; intro v3 w3 ho3 hg3; have HO3 := Pl.hid ho3; have HG3 := Pl.hid hg3; have hr3 := (hg3.block r (by have := HRL.out; omega) (fun e => by injection e with e; have e : r = p := e; have := HRL.out; omega)).trans HR2.out; clear ho3 hg3; obtain ⟨va, vn, vk, rfl⟩ := Mm.row_slice HO3.out)
    | (refine Mm.wp_store4 _ rfl _ _ rfl r _ _ _ _ _ _ hr3 rfl rfl rfl (by intro u hu; simp only [List.mem_cons, List.mem_nil_iff, or_false] at hu; rcases hu with rfl | rfl | rfl | rfl <;> rfl) ?_; intro wf hwf hsf hgf; clear hsf; have HWF := Pl.hid hwf; have HGF := Pl.hid hgf; clear hwf hgf))
  refine bodyPost_ret (Mm.res_cell rfl _ wf r _ _ _ _ _ _ rfl HWF.out) rfl ?_
  have hrl := HRL.out
  have b1 := HB1.out
  have b2 : Below w.heap.size w w2 := b1.trans (HB12.out.mono b1.size)
  have b3 : Below w.heap.size w w3 := b2.grown HG3.out b2.size (fun k hk => by injection hk with hk; have hk : p = k := hk; omega)
  refine ⟨_, rfl, ?_, b3.grown HGF.out b3.size (fun k hk => by injection hk with hk; omega)⟩
  have h2 := Mm.ownsRowR_keep HO3.out (w' := wf) (fun g hg => HGF.out.block g (Mm.ownsRow_lt HO3.out hg) (fun e => by
    injection e with e
    rcases HO3.out.2 with ⟨e', _⟩ | ⟨g', cap, cur, e', hle, _⟩
    · rw [e'] at hg; cases hg
    · rw [e'] at hg
      injection hg with hg
      have hg : g' = g := hg
      omega))
  exact ⟨h2.1, by
    rcases h2.2 with h | ⟨g', cap, cur, e', hle, r⟩
    · exact .inl h
    · exact .inr ⟨g', cap, cur, e', by omega, r⟩⟩
end Go.Proofs.YtakldjdohgmeiaaDoor

namespace Go.Proofs.YtakldjdohgmeiaaDoor
open Go.RowKit
set_option maxRecDepth 20000

namespace RT
open Pl
/-- a line's head that is broken off -/
theorem hd_cut1 {f : UInt8} {s p q : List UInt8} (hf : kd f ≠ 0) (hs : noEnd s = true) (h : f :: (s ++ [13, 10]) = p ++ q) (hq : q ≠ []) : hdR p = .bad 5 := by
  cases p with
  | nil => rfl
  | cons c p =>
    simp only [List.cons_append, List.cons.injEq] at h
    obtain ⟨rfl, h⟩ := h
    have e := line_short hs h hq
    rw [hdR, if_neg hf, if_pos (by rw [e]; decide), e]
theorem hd_cut {k : Int} {s : ByteArray} {n : Int} {ln : Nat} (h : okHead k s n ln = true) (hs : s.size ≤ 16777216) {p q : List UInt8} (he : encH k s n ln = p ++ q) (hq : q ≠ []) : hdR p = .bad 5 := by
  rcases okHead_cases h with ⟨rfl, h1, rfl, h2⟩ | ⟨rfl, h1, rfl, h2⟩ | ⟨rfl, rfl, h2⟩ | ⟨rfl, rfl, h2⟩ | ⟨rfl, rfl, rfl, h2⟩ | ⟨rfl, rfl, rfl, h2⟩ | ⟨rfl, rfl, rfl⟩
  · refine hd_cut1 (f := 43) (s := L s) (by decide) h1 ?_ hq
    rw [← he]
    simp [encH, crlf]
  · refine hd_cut1 (f := 45) (s := L s) (by decide) h1 ?_ hq
    rw [← he]
    simp [encH, crlf]
  · refine hd_cut1 (f := 58) (s := Lib.itoa n) (by decide) (noEnd_digits fun c hc => itoa_ge hc) ?_ hq
    rw [← he]
    simp [encH, crlf]
  · have hsz : (L s).length ≤ 16777216 := by rw [L_length]; exact hs
    have he' : 36 :: ((Lib.decDigits (L s).length ++ [13, 10]) ++ (L s ++ [13, 10])) = p ++ q := by
      rw [← he]
      simp [encH, bulkE, crlf]
    have hd := noEnd_digits (l := Lib.decDigits (L s).length) fun c hc => dec_ge hc
    cases p with
    | nil => rfl
    | cons c p =>
      simp only [List.cons_append, List.cons.injEq] at he'
      obtain ⟨rfl, he'⟩ := he'
      have key : ∀ a : List UInt8, p ++ a = Lib.decDigits (L s).length ++ [13, 10] → a ≠ [] → hdR (36 :: p) = .bad 5 := by
        intro a ha hne
        exact hd_cut1 (f := 36) (p := 36 :: p) (by decide) hd (by rw [List.cons_append, ha]) hne
      rcases List.append_eq_append_iff.1 he' with ⟨a, h1, h3⟩ | ⟨a, h1, h3⟩
      · have e := line_ok (Lib.decDigits (L s).length) a hd
        obtain ⟨v, c⟩ := rI_dec' (L s).length (by omega)
        have e' : lineR p = (0, Lib.decDigits (L s).length, a) := by
          rw [h1, ← e]
          simp
        have hlen : a.length < (L s).length + 2 := by
          have := congrArg List.length h3
          have h0 : 0 < q.length := List.length_pos_iff.2 hq
          simp only [List.length_append, List.length_cons, List.length_nil] at this
          omega
        have ek : kd 36 = 4 := by decide
        have n1 : ¬ (((L s).length : Nat) : Int) = -1 := by omega
        have n2 : ¬ (16777216 : Int) < (((L s).length : Nat) : Int) := by omega
        have n3 : ¬ (((L s).length : Nat) : Int) < -1 := by omega
        have eb : bulkR (L s).length a = (5, [], []) := by unfold bulkR; rw [if_pos hlen]
        simp only [hdR, ek, e', v, c, numR, n1, n2, n3, Int.toNat_natCast, eb]
        simp
      · by_cases ha : a = []
        · subst ha
          rw [List.append_nil] at h1
          have e := line_ok (Lib.decDigits (L s).length) [] hd
          obtain ⟨v, c⟩ := rI_dec' (L s).length (by omega)
          have e' : lineR p = (0, Lib.decDigits (L s).length, []) := by rw [← h1, ← e]
          have ek : kd 36 = 4 := by decide
          have n1 : ¬ (((L s).length : Nat) : Int) = -1 := by omega
          have n2 : ¬ (16777216 : Int) < (((L s).length : Nat) : Int) := by omega
          have n3 : ¬ (((L s).length : Nat) : Int) < -1 := by omega
          have eb : bulkR (L s).length [] = (5, [], []) := by unfold bulkR; rw [if_pos (by simp)]
          simp only [hdR, ek, e', v, c, numR, n1, n2, n3, Int.toNat_natCast, eb]
          simp
        · exact key a h1.symm ha
  · refine hd_cut1 (f := 36) (s := [45, 49]) (by decide) (by decide) ?_ hq
    rw [← he]
    simp [encH]
  · refine hd_cut1 (f := 42) (s := [45, 49]) (by decide) (by decide) ?_ hq
    rw [← he]
    simp [encH]
  · refine hd_cut1 (f := 42) (s := Lib.decDigits ln) (by decide) (noEnd_digits fun c hc => dec_ge hc) ?_ hq
    rw [← he]
    simp [encH, crlf]
theorem decN_cut {f : List UInt8 → Int × RT × List UInt8} : ∀ (l : List RT) (ts : List RT) (p q : List UInt8), (∀ t ∈ l, ∀ r', f (t.enc ++ r') = (0, t, r')) → (∀ t ∈ l, ∀ p' q', t.enc = p' ++ q' → q' ≠ [] → (f p').1 = 5) → encL l = p ++ q → q ≠ [] → (decN f l.length ts p).1 = 5
  | [], ts, p, q, _, _, h, hq => by
    simp only [encL] at h
    exact absurd (List.append_eq_nil_iff.1 h.symm).2 hq
  | t :: l, ts, p, q, h1, h2, h, hq => by
    simp only [encL] at h
    simp only [List.length_cons, decN]
    have ih := fun ts' p' (e : encL l = p' ++ q) => decN_cut l ts' p' q (fun t' ht' => h1 t' (by simp [ht'])) (fun t' ht' => h2 t' (by simp [ht'])) e hq
    rcases List.append_eq_append_iff.1 h with ⟨a, e1, e2⟩ | ⟨a, e1, e2⟩
    · have := h1 t (by simp) a
      rw [e1, this, if_pos rfl]
      exact ih _ _ e2
    · by_cases ha : a = []
      · subst ha
        rw [List.append_nil] at e1
        have := h1 t (by simp) []
        rw [List.append_nil] at this
        rw [← e1, this, if_pos rfl]
        exact ih _ _ (by rw [List.nil_append] at e2 ⊢; exact e2.symm)
      · have := h2 t (by simp) p a e1 ha
        rw [if_neg (by rw [this]; decide), this]
/-- broken off anywhere it is too short -/
theorem dec_cut : ∀ (d : Nat) (t : RT), t.ok = true → t.In → t.depth ≤ d → t.enc.length ≤ 16777216 → ∀ p q, t.enc = p ++ q → q ≠ [] → (decR d p).1 = 5 := by
  intro d
  induction d with
  | zero =>
    intro t hok hin hd hl p q he hq
    obtain ⟨k, s, n, l⟩ := t
    rw [ok_mk, Bool.and_eq_true] at hok
    rw [depth_mk] at hd
    have hk : k ≠ 6 := fun e => by rw [if_pos e] at hd; omega
    have ht := encH_text hok.1
    have hln : l = [] := by
      rcases okHead_cases hok.1 with ⟨_, _, _, h⟩ | ⟨_, _, _, h⟩ | ⟨_, _, h⟩ | ⟨_, _, h⟩ | ⟨_, _, _, h⟩ | ⟨_, _, _, h⟩ | ⟨h, _⟩
      all_goals first | exact List.eq_nil_of_length_eq_zero h | exact absurd h hk
    subst hln
    rw [enc_mk, List.length_append] at hl
    rw [enc_mk, show encL [] = [] by simp [encL], List.append_nil] at he
    rw [decR_bad (hd_cut hok.1 (by omega) he hq) 0]
  | succ d ih =>
    intro t hok hin hd hl p q he hq
    obtain ⟨k, s, n, l⟩ := t
    rw [ok_mk, Bool.and_eq_true] at hok
    rw [depth_mk] at hd
    have ht := encH_text hok.1
    have hle : 3 * l.length ≤ (encL l).length := encL_len l fun t ht => (sz_enc t (okL_mem hok.2 ht)).2
    rw [enc_mk, List.length_append] at hl
    rw [enc_mk] at he
    by_cases hk : k = 6
    · rw [if_pos hk] at hd
      have arr : ∀ a : List UInt8, p = encH k s n l.length ++ a → encL l = a ++ q → (decR (d + 1) p).1 = 5 := by
        intro a e1 e2
        have hh := hd_enc hok.1 hin.num (by omega) (by omega) a
        rw [if_pos hk] at hh
        rw [e1, decR_arr hh d]
        have := decN_cut l [] a q (fun t' ht' r' => dec_enc d t' (okL_mem hok.2 ht') (hin.list t' ht') (by have := depthL_mem ht'; omega) (by have := encL_mem ht'; omega) r') (fun t' ht' p' q' e hq' => ih t' (okL_mem hok.2 ht') (hin.list t' ht') (by have := depthL_mem ht'; omega) (by have := encL_mem ht'; omega) p' q' e hq') e2 hq
        unfold arrR
        rw [if_neg (by rw [this]; decide), this]
      rcases List.append_eq_append_iff.1 he with ⟨a, e1, e2⟩ | ⟨a, e1, e2⟩
      · exact arr a e1 e2
      · by_cases ha : a = []
        · subst ha
          rw [List.append_nil] at e1
          exact arr [] (by rw [← e1, List.append_nil]) (by rw [List.nil_append] at e2 ⊢; exact e2.symm)
        · rw [decR_bad (hd_cut hok.1 (by omega) e1 ha) (d + 1)]
    · have hln : l = [] := by
        rcases okHead_cases hok.1 with ⟨_, _, _, h⟩ | ⟨_, _, _, h⟩ | ⟨_, _, h⟩ | ⟨_, _, h⟩ | ⟨_, _, _, h⟩ | ⟨_, _, _, h⟩ | ⟨h, _⟩
        all_goals first | exact List.eq_nil_of_length_eq_zero h | exact absurd h hk
      subst hln
      rw [show encL [] = [] by simp [encL], List.append_nil] at he
      rw [decR_bad (hd_cut hok.1 (by omega) he hq) (d + 1)]
theorem nul_of_bad : ∀ (d : Nat) (l : List UInt8), (decR d l).1 ≠ 0 → (decR d l).2.1 = nul := by
  intro d l h
  cases d with
  | zero =>
    unfold decR at *
    split at h <;> first | rfl | exact absurd rfl h
  | succ d =>
    unfold decR at *
    split at h
    · rfl
    · exact absurd rfl h
    · unfold arrR at *
      split
      · rename_i e
        rw [if_pos e] at h
        exact absurd rfl h
      · rfl

/-! plain -/
def strip (s : ByteArray) : ByteArray := B ((L s).filter fun c => !isEnd c)
def kp (k : Int) : Int := k.emod 7 + 1
/-- what plain makes of a reply without a list -/
def plH (k : Int) (s : ByteArray) (n : Int) : RT :=
  if kp k ≤ 2 then .mk (kp k) (strip s) 0 [] else if kp k = 3 then .mk 3 ⟨#[]⟩ n [] else if kp k = 4 then .mk 4 s 0 [] else .mk (kp k) ⟨#[]⟩ 0 []
def plainR : Nat → RT → RT
  | 0, .mk k s n _ => if kp k = 6 then .mk 7 ⟨#[]⟩ 0 [] else plH k s n
  | g + 1, .mk k s n l => if l ≠ [] ∨ kp k = 6 then .mk 6 ⟨#[]⟩ 0 (l.map (plainR g)) else plH k s n
theorem kp_range (k : Int) : 1 ≤ kp k ∧ kp k ≤ 7 := by
  unfold kp
  have h1 := Int.emod_nonneg k (show (7 : Int) ≠ 0 by decide)
  have h2 := Int.emod_lt_of_pos k (show (0 : Int) < 7 by decide)
  simp only [HMod.hMod, Mod.mod] at h1 h2
  omega
theorem strip_noEnd (s : ByteArray) : noEnd (L (strip s)) = true := by
  unfold strip
  rw [L_B]
  unfold noEnd
  rw [List.all_eq_true]
  intro c hc
  exact (List.mem_filter.1 hc).2
theorem strip_size (s : ByteArray) : (strip s).size ≤ s.size := by
  have h1 : (strip s).size = (L (strip s)).length := (L_length _).symm
  rw [h1]
  unfold strip
  rw [L_B, ← L_length s]
  exact List.length_filter_le _ _
theorem plH_ok (k : Int) (s : ByteArray) (n : Int) (h6 : kp k ≠ 6) (hn : In64 n) : (plH k s n).ok = true ∧ (plH k s n).In ∧ (plH k s n).depth = 0 ∧ (plH k s n).sz ≤ s.size + 25 := by
  have hno : ∀ t' : RT, t' ∈ ([] : List RT) → In t' := fun t' ht' => by cases ht'
  have h0 : In64 0 := by unfold In64; omega
  have e0 : (⟨#[]⟩ : ByteArray).size = 0 := rfl
  have hs := strip_size s
  have hse := strip_noEnd s
  obtain ⟨r1, r2⟩ := kp_range k
  unfold plH
  by_cases h1 : kp k ≤ 2
  · rw [if_pos h1]
    rcases (show kp k = 1 ∨ kp k = 2 by omega) with e | e <;> rw [e]
    · refine ⟨by simp [ok, okL, okHead, hse], .mk _ _ _ _ h0 hno, by simp [depth], ?_⟩
      simp only [sz_mk, szL]; omega
    · refine ⟨by simp [ok, okL, okHead, hse], .mk _ _ _ _ h0 hno, by simp [depth], ?_⟩
      simp only [sz_mk, szL]; omega
  · rw [if_neg h1]
    by_cases h3 : kp k = 3
    · rw [if_pos h3]
      refine ⟨by simp [ok, okL, okHead, e0], .mk _ _ _ _ hn hno, by simp [depth], ?_⟩
      simp only [sz_mk, szL, e0]; omega
    · rw [if_neg h3]
      by_cases h4 : kp k = 4
      · rw [if_pos h4]
        refine ⟨by simp [ok, okL, okHead], .mk _ _ _ _ h0 hno, by simp [depth], ?_⟩
        simp only [sz_mk, szL]; omega
      · rw [if_neg h4]
        rcases (show kp k = 5 ∨ kp k = 7 by omega) with e | e <;> rw [e]
        · refine ⟨by simp [ok, okL, okHead, e0], .mk _ _ _ _ h0 hno, by simp [depth], ?_⟩
          simp only [sz_mk, szL, e0]; omega
        · refine ⟨by simp [ok, okL, okHead, e0], .mk _ _ _ _ h0 hno, by simp [depth], ?_⟩
          simp only [sz_mk, szL, e0]; omega
theorem plainL (g : Nat) : ∀ l : List RT, (∀ t ∈ l, (plainR g t).ok = true ∧ (plainR g t).In ∧ (plainR g t).depth ≤ g ∧ (plainR g t).sz ≤ t.sz) →
    okL (l.map (plainR g)) = true ∧ (∀ t ∈ l.map (plainR g), t.In) ∧ depthL (l.map (plainR g)) ≤ g ∧ szL (l.map (plainR g)) ≤ szL l
  | [], _ => ⟨by simp [okL], fun t ht => (by cases ht), by simp [depthL], by simp [szL]⟩
  | t :: l, h => by
    obtain ⟨a1, a2, a3, a4⟩ := h t (by simp)
    obtain ⟨b1, b2, b3, b4⟩ := plainL g l fun t' ht' => h t' (by simp [ht'])
    refine ⟨by simp [okL, a1, b1], fun t' ht' => ?_, by simp only [List.map_cons, depthL]; omega, by simp only [List.map_cons, szL]; omega⟩
    rw [List.map_cons] at ht'
    rcases List.mem_cons.1 ht' with rfl | ht'
    · exact a2
    · exact b2 t' ht'
theorem plain_ok : ∀ (g : Nat) (t : RT), t.In → (plainR g t).ok = true ∧ (plainR g t).In ∧ (plainR g t).depth ≤ g ∧ (plainR g t).sz ≤ t.sz := by
  have hno : ∀ t' : RT, t' ∈ ([] : List RT) → In t' := fun t' ht' => by cases ht'
  have h0 : In64 0 := by unfold In64; omega
  have e0 : (⟨#[]⟩ : ByteArray).size = 0 := rfl
  intro g
  induction g with
  | zero =>
    intro t ht
    obtain ⟨k, s, n, l⟩ := t
    simp only [plainR]
    by_cases h6 : kp k = 6
    · rw [if_pos h6]
      refine ⟨by simp [ok, okL, okHead, e0], .mk _ _ _ _ h0 hno, by simp [depth], ?_⟩
      simp only [sz_mk, szL, e0]; omega
    · rw [if_neg h6]
      obtain ⟨a, b, c, d⟩ := plH_ok k s n h6 ht.num
      exact ⟨a, b, by omega, by rw [sz_mk]; omega⟩
  | succ g ih =>
    intro t ht
    obtain ⟨k, s, n, l⟩ := t
    simp only [plainR]
    by_cases h6 : l ≠ [] ∨ kp k = 6
    · rw [if_pos h6]
      obtain ⟨b1, b2, b3, b4⟩ := plainL g l fun t' ht' => ih t' (ht.list t' ht')
      refine ⟨by simp [ok, okHead, e0, b1], .mk _ _ _ _ h0 b2, by rw [depth_mk, if_pos rfl]; omega, ?_⟩
      simp only [sz_mk, e0]; omega
    · rw [if_neg h6]
      obtain ⟨a, b, c, d⟩ := plH_ok k s n (fun e => h6 (.inr e)) ht.num
      exact ⟨a, b, by omega, by rw [sz_mk]; omega⟩
end RT
end Go.Proofs.YtakldjdohgmeiaaDoor

namespace Go.Proofs.YtakldjdohgmeiaaDoor
open Go.RowKit
set_option maxRecDepth 20000

namespace RT
open Pl
/-- what was written is read again -/
theorem dec_of_enc {t : RT} (hok : t.ok = true) (hin : t.In) (hd : t.depth ≤ 8) (hl : t.enc.length ≤ 16777216) (r : List UInt8) : dcode (t.enc ++ r) = 0 ∧ dtree (t.enc ++ r) = t ∧ dsize (t.enc ++ r) = t.enc.length := by
  have h := dec_enc 8 t hok hin hd hl r
  have h1 : (decR 8 (t.enc ++ r)).1 = 0 := by rw [h]
  have h2 : (decR 8 (t.enc ++ r)).2.2 = r := by rw [h]
  have h3 : (t.enc ++ r).length - (decR 8 (t.enc ++ r)).2.2.length = t.enc.length := by rw [h2, List.length_append]; omega
  obtain ⟨g1, g2, g3⟩ := dec_good h1 (by rw [h3]; omega)
  exact ⟨g1, by rw [g2, h], by rw [g3, h3]⟩
def wkA : RT := .mk 6 ⟨#[]⟩ 0 [.mk 3 ⟨#[]⟩ (-7) [], .mk 4 ⟨#[104, 105]⟩ 0 [], .mk 5 ⟨#[]⟩ 0 [], .mk 1 ⟨#[79, 75]⟩ 0 []]
def wkB : RT := .mk 6 ⟨#[]⟩ 0 [.mk 3 ⟨#[]⟩ 1 [], .mk 5 ⟨#[]⟩ 0 []]
def wkL : List UInt8 := [42, 50, 13, 10, 58, 49, 13, 10, 36, 45, 49, 13, 10]
theorem wkA_ok : wkA.ok = true := by decide +kernel
theorem wkB_ok : wkB.ok = true := by decide +kernel
theorem wkA_enc : wkA.enc = [42, 52, 13, 10, 58, 45, 55, 13, 10, 36, 50, 13, 10, 104, 105, 13, 10, 36, 45, 49, 13, 10, 43, 79, 75, 13, 10] := by decide +kernel
theorem wkB_enc : wkB.enc = wkL := by decide +kernel
theorem wkA_depth : wkA.depth = 1 := by decide +kernel
theorem wkB_depth : wkB.depth = 1 := by decide +kernel
theorem wkA_sz : wkA.sz ≤ 1000 := by decide +kernel
theorem wkB_sz : wkB.sz ≤ 1000 := by decide +kernel
theorem leaf_in (k : Int) (s : ByteArray) (n : Int) (h : In64 n) : In (.mk k s n []) := .mk _ _ _ _ h fun t ht => by cases ht
theorem wkA_in : wkA.In := .mk _ _ _ _ (by unfold In64; omega) fun t ht => by
  simp only [List.mem_cons, List.mem_nil_iff, or_false] at ht
  rcases ht with rfl | rfl | rfl | rfl <;> exact leaf_in _ _ _ (by unfold In64; omega)
theorem wkB_in : wkB.In := .mk _ _ _ _ (by unfold In64; omega) fun t ht => by
  simp only [List.mem_cons, List.mem_nil_iff, or_false] at ht
  rcases ht with rfl | rfl <;> exact leaf_in _ _ _ (by unfold In64; omega)
theorem wkA_code : wkA.code = 0 ∧ wkA.out = wkA.enc := co_good wkA_ok (by rw [wkA_depth]; decide) (by rw [wkA_enc]; decide)
theorem wkB_dec : dcode wkL = 0 ∧ dtree wkL = wkB ∧ dsize wkL = 13 := by
  have := dec_of_enc wkB_ok wkB_in (by rw [wkB_depth]; decide) (by rw [wkB_enc]; decide) []
  rw [List.append_nil, wkB_enc] at this
  exact this
end RT

theorem Mm.row4 (w : World) : Mm.RowB w [.mk 3 ⟨#[]⟩ (-7) [], .mk 4 ⟨#[104, 105]⟩ 0 [], .mk 5 ⟨#[]⟩ 0 [], .mk 1 ⟨#[79, 75]⟩ 0 []] [.int .i64 3, .string ⟨#[]⟩, .int .i64 (-7), .slice none 0 0, .int .i64 4, .string ⟨#[104, 105]⟩, .int .i64 0, .slice none 0 0, .int .i64 5, .string ⟨#[]⟩, .int .i64 0, .slice none 0 0, .int .i64 1, .string ⟨#[79, 75]⟩, .int .i64 0, .slice none 0 0] [] :=
  .cons _ _ _ _ [] [] (Mm.leaf_rep w 3 ⟨#[]⟩ (-7)) (.cons _ _ _ _ [] [] (Mm.leaf_rep w 4 ⟨#[104, 105]⟩ 0) (.cons _ _ _ _ [] [] (Mm.leaf_rep w 5 ⟨#[]⟩ 0) (.cons _ _ _ _ [] [] (Mm.leaf_rep w 1 ⟨#[79, 75]⟩ 0) .nil)))
theorem Mm.row2 (w : World) : Mm.RowB w [.mk 3 ⟨#[]⟩ 1 [], .mk 5 ⟨#[]⟩ 0 []] [.int .i64 3, .string ⟨#[]⟩, .int .i64 1, .slice none 0 0, .int .i64 5, .string ⟨#[]⟩, .int .i64 0, .slice none 0 0] [] :=
  .cons _ _ _ _ [] [] (Mm.leaf_rep w 3 ⟨#[]⟩ 1) (.cons _ _ _ _ [] [] (Mm.leaf_rep w 5 ⟨#[]⟩ 0) .nil)
theorem Mm.RepX.of_row {w : World} {lo : Nat} {v : Value} {ts : List RT} {xs : List Value} {bs : List Nat} (h : w.ownsRow lo 31 4 v ts.length xs) (hr : Mm.RowB w ts xs bs) (k : Int) (s : ByteArray) (n : Int) : Mm.RepX w (.mk k s n ts) [.int .i64 k, .string s, .int .i64 n, v] :=
  ⟨_, .mk k s n ts v xs bs ⟨h.1, by
    rcases h.2 with h | ⟨g', cap, cur, e', hle, r⟩
    · exact .inl h
    · exact .inr ⟨g', cap, cur, e', Nat.zero_le _, r⟩⟩ hr⟩

set_option maxHeartbeats 8000000 in
theorem wakes16_walk (W w : World) (hT : Mm.Tab W) (hU : Mm.U8 W) (hX : Mm.MaxI W) (hE : Mm.Errs W) (hW : Below W.heap.size W w) :
    Calls Tryd.prog 10 #[] w fun e w' => e = .returned (.bool true) ∧ Below w.heap.size w w' := by
  have HT := Pl.hid hT
  have HU := Pl.hid hU
  have HX := Pl.hid hX
  have HE := Pl.hid hE
  have HW := Pl.hid hW
  clear hT hU hX hE hW
  go_enter Tryd.func10, Tryd.ntmps10
  go_wp2_with fail
  refine (mk_int (-7) w).mono ?_
  rintro e w1 ⟨rfl, hb1⟩
  have HB1 := Pl.hid hb1
  clear hb1
  go_wp2_with fail
  refine (mk_bulk ⟨#[104, 105]⟩ w1).mono ?_
  rintro e w2 ⟨rfl, hb2⟩
  have HB2 := Pl.hid (HB1.out.trans (hb2.mono HB1.out.size))
  clear hb2
  go_wp2_with fail
  refine (mk_null w2).mono ?_
  rintro e w3 ⟨rfl, hb3⟩
  have HB3 := Pl.hid (HB2.out.trans (hb3.mono HB2.out.size))
  clear hb3
  go_wp2_with fail
  refine (mk_simple ⟨#[79, 75]⟩ w3).mono ?_
  rintro e w4 ⟨rfl, hb4⟩
  have HB4 := Pl.hid (HB3.out.trans (hb4.mono HB3.out.size))
  clear hb4
  obtain ⟨g, hg⟩ : ∃ g, w4.heap.size = g := ⟨_, rfl⟩
  obtain ⟨xa, hxa⟩ : ∃ xa : List Value, xa = [.int .i64 3, .string ⟨#[]⟩, .int .i64 (-7), .slice none 0 0, .int .i64 4, .string ⟨#[104, 105]⟩, .int .i64 0, .slice none 0 0, .int .i64 5, .string ⟨#[]⟩, .int .i64 0, .slice none 0 0, .int .i64 1, .string ⟨#[79, 75]⟩, .int .i64 0, .slice none 0 0] := ⟨_, rfl⟩
  obtain ⟨w5, hw5⟩ : ∃ w5, w4.alloc (.cells #[.int .i64 3, .string ⟨#[]⟩, .int .i64 (-7), .slice none 0 0, .int .i64 4, .string ⟨#[104, 105]⟩, .int .i64 0, .slice none 0 0, .int .i64 5, .string ⟨#[]⟩, .int .i64 0, .slice none 0 0, .int .i64 1, .string ⟨#[79, 75]⟩, .int .i64 0, .slice none 0 0] 31) = w5 := ⟨_, rfl⟩
  have HB45 : Hid (Below w4.heap.size w4 w5) := by rw [← hw5]; exact (Below.refl _ _).alloc (Nat.le_refl _) _
  have HB5 : Hid (Below w.heap.size w w5) := HB4.out.trans (HB45.out.mono HB4.out.size)
  have HAR := Pl.hid (array_walk w5 ⟨g, 0, none⟩ 4 4 xa (by rw [hxa]; rfl) (fun j u hj => by
    have e : (⟨g, 0, none⟩ : Addr).add j = ⟨g, j, none⟩ := by unfold Addr.add; split <;> simp_all
    rw [e, ← hw5, ← hg, World.cell?_alloc_mark]
    rw [hxa] at hj
    simpa using hj) (by rw [hxa]; intro u hu; exact (Mm.row4 w).one u hu) (by decide))
  have HXA := Pl.hid hxa
  clear hxa
  go_wp2_with fail
  refine HAR.out.mono ?_
  rintro e w6 ⟨v6, rfl, ho6, hb6⟩
  have HX6 : Hid (Mm.RepX w6 RT.wkA [.int .i64 6, .string ⟨#[]⟩, .int .i64 0, v6]) := by
    rw [HXA.out] at ho6
    exact Mm.RepX.of_row ho6 (Mm.row4 w6) 6 ⟨#[]⟩ 0
  have HB6 := Pl.hid (HB5.out.trans (hb6.mono HB5.out.size))
  have HS6 : Hid (∃ a k c, v6 = .slice a k c) := Mm.row_slice ho6
  clear ho6 hb6 HAR hw5 hg
  obtain ⟨va, vk, vc, rfl⟩ := HS6.out
  obtain ⟨y, hy⟩ : ∃ y, w6.heap.size = y := ⟨_, rfl⟩
  go_wp2_with (refine Mm.wp_store4 _ rfl _ _ rfl y _ _ _ _ _ _ (by rw [← hy]; exact heap_alloc_new w6 _) rfl rfl rfl HX6.out.one ?_; intro w7 hw7 hs7 hg7; clear hs7; have HB67 := Pl.hid (Mm.newcell4 (by rw [hy]; exact hg7)); have k0 := Mm.cell_of hw7 (i := 0) rfl; have k1 := Mm.cell_of hw7 (i := 1) rfl; have k2 := Mm.cell_of hw7 (i := 2) rfl; have k3 := Mm.cell_of hw7 (i := 3) rfl; clear hw7 hg7)
  have HB7 := Pl.hid (HB6.out.trans (HB67.out.mono HB6.out.size))
  have HWs := Pl.hid HW.out.size
  refine (encode_walk w6 (HT.out.on (HW.out.trans (HB6.out.mono HWs.out))) RT.wkA RT.wkA_in (Nat.le_trans RT.wkA_sz (by decide)) _ _ _ _ HX6.out w7 HB67.out).mono ?_
  rw [RT.wkA_code.1, RT.wkA_code.2]
  rintro e w8 ⟨v8, rfl, ho8, hb8⟩
  have HO8 := Pl.hid ho8
  have HB8 := Pl.hid (HB7.out.trans (hb8.mono HB7.out.size))
  have HS8 : Hid (∃ a k c, v8 = .slice a k c) := by obtain ⟨a, c, h, _⟩ := ho8.val; exact ⟨_, _, _, h⟩
  clear ho8 hb8 k0 k1 k2 k3 hy
  obtain ⟨ba, bk, bc, rfl⟩ := HS8.out
  obtain ⟨wz, hwz⟩ : ∃ wz, wz = w8.alloc (.cells (Pl.bytesV RT.wkL).toArray 5 (13, 14)) := ⟨_, rfl⟩
  have HCV : Hid ((convert 24 24 (.slice (some ⟨w8.heap.size, 0, none⟩) 13 13)).run Tryd.prog (w8.alloc (.cells #[.int .u8 42, .int .u8 50, .int .u8 13, .int .u8 10, .int .u8 58, .int .u8 49, .int .u8 13, .int .u8 10, .int .u8 36, .int .u8 45, .int .u8 49, .int .u8 13, .int .u8 10] 5)) = .ok (.slice (some ⟨w8.heap.size, 0, none⟩) 13 13) wz) := by
    show _ = _
    rw [hwz]
    exact Lib.run_convert_bytes_const w8 _ _ _ 13 13 Tryd.underlying24 Tryd.underlying5
  have HBS : Hid (Mm.Bs wz (.slice (some ⟨w8.heap.size, 0, none⟩) 13 13) RT.wkL) := by rw [hwz]; exact Mm.bs_alloc w8 RT.wkL _ 13 rfl
  have HA : Hid (Below w8.heap.size w8 wz) := by rw [hwz]; exact (Below.refl _ _).alloc (Nat.le_refl _) _
  have HBZ := Pl.hid (HB8.out.trans (HA.out.mono HB8.out.size))
  have HWZ := Pl.hid (HW.out.trans (HBZ.out.mono HWs.out))
  have hcv := HCV.out
  clear hwz
  go_wp2_with fail
  refine (decode_walk wz (HU.out.on HWZ.out) (HX.out.on HWZ.out) (HE.out.on HWZ.out) _ RT.wkL HBS.out (by decide)).mono ?_
  rw [RT.wkB_dec.1, RT.wkB_dec.2.1, RT.wkB_dec.2.2]
  rintro e w9 ⟨c0, c1, c2, c3, rfl, ho9, hb9⟩
  have HO9 := Pl.hid ho9
  have HZ9 := Pl.hid hb9
  have HB9 := Pl.hid (HBZ.out.trans (hb9.mono HBZ.out.size))
  clear ho9 hb9 hcv
  obtain ⟨y, hy⟩ : ∃ y, w9.heap.size = y := ⟨_, rfl⟩
  obtain ⟨E, hE⟩ : ∃ E, E = Pl.B RT.wkA.enc := ⟨_, rfl⟩
  have heq : (E.toList == [42, 52, 13, 10, 58, 45, 55, 13, 10, 36, 50, 13, 10, 104, 105, 13, 10, 36, 45, 49, 13, 10, 43, 79, 75, 13, 10]) = true := by
    rw [hE, Lib.toList_data]
    rw [show (Pl.B RT.wkA.enc).data.toList = RT.wkA.enc from Pl.L_B _, RT.wkA_enc]
    decide
  have HEE := Pl.hid hE
  have HST : Hid (∀ wa : World, wa.heap[y]? = some (.cells #[c0, c1, c2, c3] 31 (0, 0)) → Below w9.heap.size w9 wa → Hid (Mm.OwnB wa w7.heap.size (.slice ba bk bc) RT.wkA.enc) ∧ Hid (Below w.heap.size w wa) ∧ Hid (Mm.OwnT wa wz.heap.size RT.wkB [c0, c1, c2, c3]) ∧
      wa.cell? ⟨y, 0, none⟩ = some c0 ∧ wa.cell? ⟨y, 1, none⟩ = some c1 ∧ wa.cell? ⟨y, 2, none⟩ = some c2 ∧ wa.cell? ⟨y, 3, none⟩ = some c3) := fun wa hwa hba => by
    refine ⟨?_, HB9.out.trans (hba.mono HB9.out.size), HO9.out.below hba, Mm.cell_of hwa (i := 0) rfl, Mm.cell_of hwa (i := 1) rfl, Mm.cell_of hwa (i := 2) rfl, Mm.cell_of hwa (i := 3) rfl⟩
    exact HO8.out.keep fun q hq => by
      have h1 := (HO8.out.lt q hq).2
      have h2 := HA.out.size
      have h3 := HZ9.out.size
      exact (hba.block q (by omega)).trans ((HZ9.out.block q (by omega)).trans (HA.out.block q h1))
  clear hE
  go_wp2_with (first
    | (refine Mm.wp_store4 _ rfl _ _ rfl y _ _ _ _ _ _ (by rw [← hy]; exact heap_alloc_new w9 _) rfl rfl rfl HO9.out.one ?_; intro wa hwa hsa hga; clear hsa; obtain ⟨HOA, HBA, HTA, q0, q1, q2, q3⟩ := HST.out wa hwa (Mm.newcell4 (by rw [hy]; exact hga)); clear hwa hga))
  rw [Mm.run_str wa w7.heap.size _ RT.wkA.enc HOA.out, ← HEE.out]
  simp only [Result.andThen]
  rw [Oper.upon_value]
  go_wp2_with fail
  obtain ⟨wb, hwb⟩ : ∃ wb, wa.alloc (.cells #[.int .i64 3, .string ⟨#[]⟩, .int .i64 1, .slice none 0 0, .int .i64 5, .string ⟨#[]⟩, .int .i64 0, .slice none 0 0] 31) = wb := ⟨_, rfl⟩
  have HBAB : Hid (Below wa.heap.size wa wb) := by rw [← hwb]; exact (Below.refl _ _).alloc (Nat.le_refl _) _
  have HXB : Hid (Mm.RepX wb RT.wkB [.int .i64 6, .string ⟨#[]⟩, .int .i64 0, .slice (some ⟨wa.heap.size, 0, none⟩) 2 2]) :=
    Mm.RepX.of_row (lo := 0) (xs := [.int .i64 3, .string ⟨#[]⟩, .int .i64 1, .slice none 0 0, .int .i64 5, .string ⟨#[]⟩, .int .i64 0, .slice none 0 0]) ⟨rfl, .inr ⟨wa.heap.size, 2, #[.int .i64 3, .string ⟨#[]⟩, .int .i64 1, .slice none 0 0, .int .i64 5, .string ⟨#[]⟩, .int .i64 0, .slice none 0 0], rfl, Nat.zero_le _, by rw [← hwb]; exact heap_alloc_new wa _, by decide, by decide, rfl, rfl⟩⟩ (Mm.row2 wb) 6 ⟨#[]⟩ 0
  rw [hwb]
  refine (alike_tree wb RT.wkB (Nat.le_trans RT.wkB_sz (by decide)) _ _ _ _ _ _ _ _ (HTA.out.below HBAB.out).x HXB.out wb (Below.refl _ _)).mono ?_
  rintro e wf ⟨rfl, hbf⟩
  have HBF := Pl.hid (HBA.out.trans ((HBAB.out.trans (hbf.mono HBAB.out.size)).mono HBA.out.size))
  clear hbf hwb
  go_wp2_with fail
  go_ret
  exact ⟨rfl, HBF.out⟩
end Go.Proofs.YtakldjdohgmeiaaDoor

namespace Go.Proofs.YtakldjdohgmeiaaDoor
open Go.RowKit
set_option maxRecDepth 20000

namespace RT
open Pl
theorem dec_zero {l : List UInt8} (h : dcode l = 0) : (dtree l).ok = true ∧ (dtree l).In ∧ (dtree l).depth ≤ 8 ∧ dsize l = (dtree l).enc.length ∧ dsize l ≤ 16777216 ∧ ∃ r, l = (dtree l).enc ++ r := by
  have h1 : (decR 8 l).1 = 0 := by
    by_cases hc : (decR 8 l).1 = 0
    · exact hc
    · have := (dec_bad rfl hc).1
      rw [this] at h
      exact h
  have h2 : ¬ 16777216 < l.length - (decR 8 l).2.2.length := fun hb => by
    have := (dec_long h1 hb).1
    rw [this] at h
    exact absurd h (by decide)
  obtain ⟨g1, g2, g3⟩ := dec_good h1 h2
  obtain ⟨a1, a2, a3, a4⟩ := dec_back 8 l (decR 8 l).2.1 (decR 8 l).2.2 (by rw [← h1])
  have e := congrArg List.length a4
  rw [List.length_append] at e
  rw [g2]
  exact ⟨a1, a2, a3, by rw [g3]; omega, by rw [g3]; omega, _, a4⟩
theorem dec_fail {l : List UInt8} (h : dcode l ≠ 0) : dtree l = nul ∧ dsize l = 0 := ⟨by unfold dtree; rw [if_neg h], by unfold dsize; rw [if_neg h]⟩
end RT
namespace Mm
theorem Bs.bytesR {w : World} {v : Value} {l : List UInt8} (h : Bs w v l) : BytesR w v l := by
  obtain ⟨a, c, rfl, _, _, hm⟩ := h
  refine ⟨a, c, rfl, ?_⟩
  rcases Nat.eq_zero_or_pos l.length with h0 | h0
  · exact .inl h0
  · obtain ⟨g, o, e, hb⟩ := hm h0
    exact .inr ⟨g, o, e, World.block_lt_of_cell? _ _ (hb 0 h0), hb⟩
end Mm

set_option maxHeartbeats 8000000 in
theorem form_walk (W : World) (v : Value) (l : List UInt8) (hv : Mm.Bs W v l) (hl : l.length ≤ 1048576) (hT : Mm.Tab W) (hU : Mm.U8 W) (hX : Mm.MaxI W) (hE : Mm.Errs W) :
    Calls Tryd.prog 9 #[v] W fun e w' => e = .returned (.bool true) ∧ Below W.heap.size W w' := by
  obtain ⟨a, c, rfl⟩ : ∃ a c, v = .slice a l.length c := by obtain ⟨a, c, h, _⟩ := hv; exact ⟨a, c, h⟩
  have HT := Pl.hid hT
  have HU := Pl.hid hU
  have HX := Pl.hid hX
  have HE := Pl.hid hE
  obtain ⟨N, hN⟩ : ∃ N, N = l.length := ⟨_, rfl⟩
  rw [← hN] at hv hl ⊢
  have HV := Pl.hid hv
  have HN := Pl.hid hN
  clear hT hU hX hE hv hN
  go_enter Tryd.func9, Tryd.ntmps9
  go_wp2_with fail
  refine (wakes16_walk W W HT.out HU.out HX.out HE.out (Below.refl _ _)).mono ?_
  rintro e w1 ⟨rfl, hb1⟩
  have HB1 := Pl.hid hb1
  clear hb1
  go_wp2_with fail
  refine (decode_walk w1 (HU.out.on HB1.out) (HX.out.on HB1.out) (HE.out.on HB1.out) _ l (HV.out.dn HB1.out) (by have := HN.out; omega)).mono ?_
  rintro e w2 ⟨c0, c1, c2, c3, rfl, ho2, hb2⟩
  have HO2 := Pl.hid ho2
  have HB2 := Pl.hid (HB1.out.trans (hb2.mono HB1.out.size))
  clear ho2 hb2
  obtain ⟨y, hy⟩ : ∃ y, w2.heap.size = y := ⟨_, rfl⟩
  obtain ⟨cd, hcd⟩ : ∃ cd, cd = RT.dcode l := ⟨_, rfl⟩
  obtain ⟨S, hS⟩ : ∃ S, S = RT.dsize l := ⟨_, rfl⟩
  rw [← hcd, ← hS]
  have HCD := Pl.hid hcd
  have HS := Pl.hid hS
  clear hcd hS
  have HST : Hid (∀ wa : World, wa.heap[y]? = some (.cells #[c0, c1, c2, c3] 31 (0, 0)) → Below w2.heap.size w2 wa → Hid (Below W.heap.size W wa) ∧ Hid (Mm.OwnT wa w1.heap.size (RT.dtree l) [c0, c1, c2, c3]) ∧
      wa.cell? ⟨y, 0, none⟩ = some c0 ∧ wa.cell? ⟨y, 1, none⟩ = some c1 ∧ wa.cell? ⟨y, 2, none⟩ = some c2 ∧ wa.cell? ⟨y, 3, none⟩ = some c3) := fun wa hwa hba =>
    ⟨HB2.out.trans (hba.mono HB2.out.size), HO2.out.below hba, Mm.cell_of hwa (i := 0) rfl, Mm.cell_of hwa (i := 1) rfl, Mm.cell_of hwa (i := 2) rfl, Mm.cell_of hwa (i := 3) rfl⟩
  by_cases h0 : cd = 0
  · obtain ⟨a1, a2, a3, a4, a5, rs, a6⟩ := RT.dec_zero (l := l) (by rw [← HCD.out]; exact h0)
    subst h0
    obtain ⟨T, hT⟩ : ∃ T, T = RT.dtree l := ⟨_, rfl⟩
    rw [← hT] at a1 a2 a3 a4 a6 HST
    rw [← hT] at HO2
    have s1 := RT.sz_enc T a1
    have HC := RT.co_good a1 (by omega) (by rw [← a4]; omega)
    have hS3 : 3 ≤ S := by rw [HS.out, a4]; exact s1.2
    have hSN : S ≤ N := by rw [HS.out, a4, HN.out]; conv => rhs; rw [a6]
                           rw [List.length_append]; omega
    have HSE : Hid (S = T.enc.length) := HS.out.trans a4
    have HLE : Hid (l = T.enc ++ rs) := a6
    have HSZ : Hid (T.sz ≤ 1073741824) := by show _ ≤ _; have := s1.1; omega
    have HIN := Pl.hid a2
    have HCC := Pl.hid HC
    have hNc : N ≤ c := by
      obtain ⟨_, _, e, h, _⟩ := HV.out
      injection e with e1 e2 e3
      rw [← HN.out, ← e3] at h
      exact h
    have hSb : S ≤ 16777216 := by rw [HS.out]; exact a5
    clear a1 a2 a3 a4 a5 a6 hT s1 HC
    go_wp2_with (refine Mm.wp_store4 _ rfl _ _ rfl y _ _ _ _ _ _ (by rw [← hy]; exact heap_alloc_new w2 _) rfl rfl rfl HO2.out.one ?_; intro wa hwa hsa hga; clear hsa; obtain ⟨HBA, HOA, q0, q1, q2, q3⟩ := HST.out wa hwa (Mm.newcell4 (by rw [hy]; exact hga)); clear hwa hga)
    refine (encode_walk wa (HT.out.on HBA.out) T HIN.out HSZ.out c0 c1 c2 c3 HOA.out.x wa (Below.refl _ _)).mono ?_
    rw [HCC.out.1, HCC.out.2]
    rintro e w3 ⟨v3, rfl, ho3, hb3⟩
    have HO3 := Pl.hid ho3
    have HB3 := Pl.hid (HBA.out.trans (hb3.mono HBA.out.size))
    clear ho3 hb3 q0 q1 q2 q3
    go_wp2_with fail
    have HF : Hid (Mm.Bs W (.slice a S c) T.enc) := by
      have h := HV.out
      rw [HLE.out] at h
      have h := h.front
      rw [← HSE.out] at h
      exact h
    refine (same16_eq v3 _ T.enc w3 (by have := HSE.out; omega) HO3.out.bytesR (HF.out.bytesR.below HB3.out)).mono ?_
    rintro e w4 ⟨rfl, hb4⟩
    go_wp2_with fail
    go_ret
    exact ⟨rfl, HB3.out.trans (hb4.mono HB3.out.size)⟩
  · obtain ⟨a1, a2⟩ := RT.dec_fail (l := l) (by rw [← HCD.out]; exact h0)
    rw [a1] at HST HO2
    obtain rfl : S = 0 := HS.out.trans a2
    have hcb : ((cd : Int) != 0) = true := bne_iff_ne.2 h0
    clear a1 a2 h0
    go_wp2_with (refine Mm.wp_store4 _ rfl _ _ rfl y _ _ _ _ _ _ (by rw [← hy]; exact heap_alloc_new w2 _) rfl rfl rfl HO2.out.one ?_; intro wa hwa hsa hga; clear hsa; obtain ⟨HBA, HOA, q0, q1, q2, q3⟩ := HST.out wa hwa (Mm.newcell4 (by rw [hy]; exact hga)); clear hwa hga)
    refine (alike_tree wa RT.nul (by decide) c0 c1 c2 c3 _ _ _ _ HOA.out.x (Mm.leaf_x wa 0 ⟨#[]⟩ 0) wa (Below.refl _ _)).mono ?_
    rintro e w3 ⟨rfl, hb3⟩
    go_wp2_with fail
    go_ret
    exact ⟨rfl, HBA.out.trans (hb3.mono HBA.out.size)⟩
end Go.Proofs.YtakldjdohgmeiaaDoor

namespace Go.Proofs.YtakldjdohgmeiaaDoor
set_option maxRecDepth 20000
namespace Pl
theorem dig_le (n : Nat) : (Lib.decDigits n).length ≤ n + 1 := by
  induction n using Nat.strongRecOn with
  | _ n ih =>
    rw [Lib.decDigits]
    split
    · simp
    · have := ih (n / 10) (by omega)
      simp only [List.length_append, List.length_cons, List.length_nil]
      omega
theorem bulkE_le (s : List UInt8) : (bulkE s).length ≤ 6 * (s.length + 1) := by
  have := dig_le s.length
  unfold bulkE crlf
  simp only [List.length_append, List.length_cons, List.length_nil]
  omega
theorem flat_le6 : ∀ ws : List (List UInt8), (ws.flatMap bulkE).length ≤ 6 * (ws.length + (ws.map List.length).sum)
  | [] => by simp
  | s :: ws => by
    have h1 := flat_le6 ws
    have h2 := bulkE_le s
    simp only [List.flatMap_cons, List.length_append, List.length_cons, List.map_cons, List.sum_cons]
    omega
theorem reqE_le (ws : List (List UInt8)) (h : ws.length + (ws.map List.length).sum ≤ 1048576) : (reqE ws).length ≤ 16777216 := by
  have h1 := flat_le6 ws
  have h2 := dec_len ws.length (by omega)
  unfold reqE crlf
  simp only [List.length_append, List.length_cons, List.length_nil]
  omega
theorem encL_bulks : ∀ ws : List (List UInt8), RT.encL (ws.map bulkT) = ws.flatMap bulkE
  | [] => by simp [RT.encL]
  | s :: ws => by
    rw [List.map_cons, List.flatMap_cons, ← encL_bulks ws]
    unfold bulkT
    simp [RT.encL, RT.enc, RT.encH, L_B]
theorem okL_bulks (ws : List (List UInt8)) : RT.okL (ws.map bulkT) = true := by
  rw [RT.okL_iff]
  intro t ht
  obtain ⟨s, _, rfl⟩ := List.mem_map.1 ht
  simp [bulkT, RT.ok, RT.okL, RT.okHead]
theorem depthL_bulks : ∀ ws : List (List UInt8), RT.depthL (ws.map bulkT) = 0
  | [] => by simp [RT.depthL]
  | s :: ws => by
    rw [List.map_cons, RT.depthL, depthL_bulks ws]
    simp [bulkT, RT.depth]
theorem szL_bulks : ∀ ws : List (List UInt8), RT.szL (ws.map bulkT) = (ws.map List.length).sum + 25 * ws.length
  | [] => by simp [RT.szL]
  | s :: ws => by
    rw [List.map_cons, RT.szL, szL_bulks ws]
    simp only [bulkT, RT.sz_mk, B_size, RT.szL, List.map_cons, List.sum_cons, List.length_cons]
    omega
/-- a command's tree -/
theorem reqT_ok (ws : List (List UInt8)) (h : ws.length + (ws.map List.length).sum ≤ 1048576) :
    (reqT ws).ok = true ∧ (reqT ws).In ∧ (reqT ws).depth = 1 ∧ (reqT ws).enc = reqE ws ∧ (reqT ws).sz ≤ 1073741824 ∧ (reqT ws).code = 0 ∧ (reqT ws).out = reqE ws := by
  have h0 : In64 0 := by unfold In64; omega
  have hno : ∀ t' : RT, t' ∈ ([] : List RT) → RT.In t' := fun t' ht' => by cases ht'
  have hok : (reqT ws).ok = true := by
    unfold reqT
    rw [RT.ok_mk, okL_bulks]
    have e0 : (⟨#[]⟩ : ByteArray).size = 0 := rfl
    simp [RT.okHead, e0]
  have hd : (reqT ws).depth = 1 := by unfold reqT; rw [RT.depth, if_pos rfl, depthL_bulks]
  have he : (reqT ws).enc = reqE ws := by
    unfold reqT reqE
    rw [RT.enc, encL_bulks, List.length_map]
    simp [RT.encH]
  obtain ⟨c1, c2⟩ := RT.co_good hok (by omega) (by rw [he]; have := reqE_le ws h; omega)
  refine ⟨hok, .mk _ _ _ _ h0 fun t ht => ?_, hd, he, ?_, c1, c2.trans he⟩
  · obtain ⟨s, _, rfl⟩ := List.mem_map.1 ht
    exact .mk _ _ _ _ h0 hno
  · unfold reqT
    rw [RT.sz_mk, szL_bulks]
    have e0 : (⟨#[]⟩ : ByteArray).size = 0 := rfl
    omega
end Pl
end Go.Proofs.YtakldjdohgmeiaaDoor
