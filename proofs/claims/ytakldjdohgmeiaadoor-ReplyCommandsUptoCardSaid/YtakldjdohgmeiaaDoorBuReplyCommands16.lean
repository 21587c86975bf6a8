/- pantryref16's written and Encode of any reply. Conditions stand in each law. reply's and pantryref16's Bulks, Request: the results lie in memory of their own. Conditions stand in each law. Plain: what reply.Error makes of a text: each CR and LF becomes a blank. No program in sight. The makers Error, of both sides. Conditions stand in each law. pantrylaw16.ReplyCommands: the law's walk. Conditions stand in each law. The frame of every law of this seat: if the walk returns true and turns nothing that was there, the law's statement follows. Conditions: what stands in 'lifted': the argument types can be read, one result, a bool. The frame of the laws whose rows list package-level variables: the witness's world, what the list gives. Conditions stand in each law. Conditions stand in each law. -/
import Derived.Test.YtakldjdohgmeiaaDoorBuReplyCommands15
import Derived.Test.YtakldjdohgmeiaaDoorBuReplyCommands9
import Derived.Test.YtakldjdohgmeiaaDoorBuReplyCommands10
import Derived.Test.YtakldjdohgmeiaaDoorBuReplyCommands12
import Derived.Test.YtakldjdohgmeiaaDoorBuReplyCommands14
import Derived.Lib.Replace
import Derived.Test.YtakldjdohgmeiaaDoorBuReplyCommands1
import Derived.Shelf.Strings.Replace
import Derived.Test.YtakldjdohgmeiaaDoorBuReplyCommands2
import Derived.Test.YtakldjdohgmeiaaDoorRows
import Derived.ProofKit
import Derived.OpenShut
import Derived.ChangeOld
import Derived.Below
import Derived.Deep.DeepHandedRow
import Derived.SizedLaws
import Derived.Test.YtakldjdohgmeiaaDoorBuReplyCommands7
import Derived.Test.YtakldjdohgmeiaaDoorCards
import Derived.Test.YtakldjdohgmeiaaDoorTie
import Derived.Lay
import Derived.MakeChecks
import Derived.Stop.LaidErr
namespace Go.Proofs.YtakldjdohgmeiaaDoor
open Go.RowKit
set_option maxRecDepth 20000

set_option maxHeartbeats 8000000 in
theorem written_walk (W : World) (most : Int) : ∀ (t : RT), t.ok = true → t.In → t.sz ≤ 1073741824 → ∀ (c0 c1 c2 c3 : Value), Mm.RepX W t [c0, c1, c2, c3] → ∀ (base : Nat) (v : Value) (l : List UInt8) (w : World), Below W.heap.size W w → W.heap.size ≤ base → base ≤ w.heap.size → Mm.OwnB w base v l →
    l.length + t.enc.length ≤ 1099511627776 →
    Calls Tryd.prog 55 #[v, .agg #[c0, c1, c2, c3], .int .i64 most] w fun e w' => ∃ v' r, e = .returned v' ∧ Mm.OwnB w' base v' r ∧ (r = l ++ t.enc ∨ most < (r.length : Int)) ∧ r.length ≤ l.length + t.enc.length ∧ Below base w w' ∧ Mm.NB w w' := by
  intro t
  induction t using RT.ind with
  | h k s nn ts ih =>
  intro hok hin hsz c0 c1 c2 c3 hX base v l w hW hWb hb ho hl
  obtain ⟨la, lc, hcs, hel⟩ := hX.open
  simp only [List.cons.injEq, and_true] at hcs
  obtain ⟨rfl, rfl, rfl, rfl⟩ := hcs
  rw [RT.ok_mk, Bool.and_eq_true] at hok
  rw [RT.enc_mk] at hl ⊢
  rw [RT.sz_mk] at hsz
  have hllen : l.length ≤ 1099511627776 := by omega
  have nilc : ts.length = 0 → RT.encL ts = [] := fun h => by rw [List.eq_nil_of_length_eq_zero h]; simp [RT.encL]
  rcases RT.okHead_cases hok.1 with ⟨rfl, h2, rfl, h4⟩ | ⟨rfl, h2, rfl, h4⟩ | ⟨rfl, h2, h4⟩ | ⟨rfl, rfl, h4⟩ | ⟨rfl, h2, rfl, h4⟩ | ⟨rfl, h2, rfl, h4⟩ | ⟨rfl, rfl, rfl⟩
  · rw [nilc h4, h4]
    refine (written_1 s most la lc base v l w hb ho hllen (by omega)).mono ?_
    rintro e w' ⟨v', rfl, h1, h2, h3⟩
    exact ⟨v', _, rfl, h1, .inl (by simp [RT.encH]), Nat.le_of_eq (by simp [RT.encH]), h2, h3⟩
  · rw [nilc h4, h4]
    refine (written_2 s most la lc base v l w hb ho hllen (by omega)).mono ?_
    rintro e w' ⟨v', rfl, h1, h2, h3⟩
    exact ⟨v', _, rfl, h1, .inl (by simp [RT.encH]), Nat.le_of_eq (by simp [RT.encH]), h2, h3⟩
  · rw [nilc h4, h4]
    refine (written_3 s nn hin.num most la lc base v l w hb ho hllen (by omega)).mono ?_
    rintro e w' ⟨v', rfl, h1, h2, h3⟩
    exact ⟨v', _, rfl, h1, .inl (by simp [RT.encH]), Nat.le_of_eq (by simp [RT.encH]), h2, h3⟩
  · rw [nilc h4, h4]
    refine (written_4 s most la lc base v l w hb ho hllen (by omega)).mono ?_
    rintro e w' ⟨v', rfl, h1, h2, h3⟩
    exact ⟨v', _, rfl, h1, .inl (by simp [RT.encH]), Nat.le_of_eq (by simp [RT.encH]), h2, h3⟩
  · rw [nilc h4, h4]
    refine (written_5 s most la lc base v l w hb ho hllen (by omega)).mono ?_
    rintro e w' ⟨v', rfl, h1, h2, h3⟩
    exact ⟨v', _, rfl, h1, .inl (by simp [RT.encH]), Nat.le_of_eq (by simp [RT.encH]), h2, h3⟩
  · rw [nilc h4, h4]
    refine (written_7 s most la lc base v l w hb ho hllen (by omega)).mono ?_
    rintro e w' ⟨v', rfl, h1, h2, h3⟩
    exact ⟨v', _, rfl, h1, .inl (by simp [RT.encH]), Nat.le_of_eq (by simp [RT.encH]), h2, h3⟩
  obtain ⟨n, hnn⟩ : ∃ n, n = ts.length := ⟨_, rfl⟩
  have hel' : n = 0 ∨ ∃ b, la = some ⟨b, 0, none⟩ ∧ b < W.heap.size ∧ ∀ (i : Nat) (hi : i < ts.length), ∃ f0 f1 f2 f3, W.cell? ⟨b, i * 4, none⟩ = some f0 ∧ W.cell? ⟨b, i * 4 + 1, none⟩ = some f1 ∧ W.cell? ⟨b, i * 4 + 2, none⟩ = some f2 ∧ W.cell? ⟨b, i * 4 + 3, none⟩ = some f3 ∧ Mm.RepX W (ts[i]'hi) [f0, f1, f2, f3] := by
    rw [hnn]
    exact hel
  clear hel
  rw [← hnn]
  have hE : RT.encH 6 ⟨#[]⟩ 0 n = [42] ++ Lib.decDigits n ++ Pl.crlf := rfl
  rw [hE]
  rw [← hnn, hE] at hl
  obtain ⟨p, hp⟩ : ∃ p, p = w.heap.size := ⟨_, rfl⟩
  obtain ⟨w0, hw0⟩ : ∃ w0, w0 = w.alloc (.cells #[.int .i64 6, .string ⟨#[]⟩, .int .i64 0, .slice la n lc] 31) := ⟨_, rfl⟩
  have HP0 : Hid (w0.heap[p]? = some (.cells #[.int .i64 6, .string ⟨#[]⟩, .int .i64 0, .slice la n lc] 31 (0, 0))) := by
    show _ = _
    rw [hw0, hp]
    exact heap_alloc_new w _
  have HB0 : Hid (Below w.heap.size w w0) := by rw [hw0]; exact (Below.refl _ _).alloc (Nat.le_refl _) _
  have HS0 : Hid (w0.heap.size = w.heap.size + 1) := by show _ = _; rw [hw0]; simp
  have hnu : ¬ Mm.isU8 (.cells #[.int .i64 6, .string ⟨#[]⟩, .int .i64 0, .slice la n lc] 31 (0, 0)) := by
    rintro ⟨cs, fr, e⟩
    injection e with _ e _
    exact absurd e (by decide)
  have HK : Hid (∀ V, Mm.NB w0 V → V.cell? ⟨p, 0, none⟩ = some (.int .i64 6) ∧ V.cell? ⟨p, 3, none⟩ = some (.slice la n lc)) := fun V hV => by
    have h := hV p _ HP0.out hnu
    exact ⟨Mm.cellOf h rfl, Mm.cellOf h rfl⟩
  have HO0 : Hid (Mm.OwnB w0 base v l) := ho.keep fun g hg => HB0.out.block g (ho.lt g hg).2
  have HW := Pl.hid hW
  have HWb := Pl.hid hWb
  have hb0 : base ≤ w0.heap.size := by rw [HS0.out]; omega
  have HBB := Pl.hid hb
  have HEL := Pl.hid hel'
  have HNN := Pl.hid hnn
  have HLL := Pl.hid hl
  have HOK := Pl.hid ((RT.okL_iff ts).1 hok.2)
  have HIN := Pl.hid hin.list
  have IH := Pl.hid ih
  have HSZ : Hid (∀ t ∈ ts, t.sz ≤ 1073741824) := fun t ht => by have := RT.szL_mem ht; omega
  have hn' : n ≤ 1099511627776 := by have := RT.szL_len ts; omega
  obtain ⟨k0, k3⟩ := HK.out w0 (Mm.NB.refl _)
  have HW0eq := Pl.hid hw0
  have HPeq := Pl.hid hp
  obtain ⟨TX, hTX⟩ : ∃ TX, TX = Pl.B (Lib.itoa (n : Int)) := ⟨_, rfl⟩
  have hTs : TX.size ≤ 21 := by rw [hTX, Pl.B_size]; exact Pl.itoa_le _ (by unfold Pl.In64; omega)
  have HTX : Hid (TX = Pl.B (Lib.decDigits n)) := by
    show _ = _
    rw [hTX, Pl.itoa_pos (by omega)]
    rfl
  have HTW := Pl.hid (fun w' => reftext_walk (n : Int) w' (by unfold Pl.In64; omega))
  rw [← hTX] at HTW
  obtain ⟨X, hXX⟩ : ∃ X, X = (⟨#[42]⟩ : ByteArray) ++ TX ++ ⟨#[13, 10]⟩ := ⟨_, rfl⟩
  have HE : Hid (X.size ≤ 24) := by show _ ≤ _; rw [hXX, ByteArray.size_append, ByteArray.size_append, show (⟨#[42]⟩ : ByteArray).size = 1 from rfl, show (⟨#[13, 10]⟩ : ByteArray).size = 2 from rfl]; omega
  have HE2 : Hid (l ++ Pl.L X = l ++ ([42] ++ Lib.decDigits n ++ Pl.crlf)) := by
    show _ = _
    rw [hXX, HTX.out, show (⟨#[42]⟩ : ByteArray) = Pl.B [42] from rfl, show (⟨#[13, 10]⟩ : ByteArray) = Pl.B Pl.crlf from rfl, Pl.B_append, Pl.B_append, Pl.L_B]
  have HX := Pl.hid hXX
  clear hTX hw0 hp hnu ho hW hX hel' hnn hl hok hin ih hsz hE nilc hXX
  go_enter Tryd.func55, Tryd.ntmps55
  go_wp2_with (first
    | (go_at_call 69; rw [← HW0eq.out]; refine (HTW.out w0).mono ?_; rintro e w2 ⟨rfl, rfl⟩; rw [← HPeq.out])
    | (at_builtin; refine Mm.wp_appSN w0 rfl _ _ (by rfl) base v l X (by rfl) (by exact congrArg Value.string HX.out.symm) HO0.out (by have := HE.out; omega) hb0 ?_; intro v3 w3 ho3 hb3 hn3; rw [HE2.out] at ho3; have HO3 := Pl.hid ho3; have HB3 := Pl.hid hb3; have HN3 := Pl.hid hn3; clear ho3 hb3 hn3 k0 k3; obtain ⟨k0, k3⟩ := HK.out w3 HN3.out))
  have HB03 : Hid (Below base w w3) := (HB0.out.mono HBB.out).trans HB3.out
  clear k0 k3
  go_loopw [82, 0] (fun iv bvv wr => ∃ (i : Nat) (bv : Value) (r : List UInt8), iv = .int .i64 i ∧ bv = bvv ∧ i ≤ n ∧ Hid (Mm.OwnB wr base bv r) ∧ Hid (r = l ++ ([42] ++ Lib.decDigits n ++ Pl.crlf) ++ RT.encL (ts.take i) ∨ most < (r.length : Int)) ∧ Hid (r.length ≤ (l ++ ([42] ++ Lib.decDigits n ++ Pl.crlf) ++ RT.encL (ts.take i)).length) ∧ Hid (Below base w wr) ∧ Hid (Mm.NB w0 wr)) (fun iv _ _ => n - (intOf iv).toNat)
  case atStart => exact ⟨0, _, _, rfl, rfl, Nat.zero_le _, HO3.out, .inl (by rw [List.take_zero, show RT.encL [] = [] by simp [RT.encL], List.append_nil]), by show _ ≤ _; rw [List.take_zero, show RT.encL [] = [] by simp [RT.encL], List.append_nil]; exact Nat.le_refl _, HB03.out, HN3.out⟩
  case round =>
    obtain ⟨i, bv, r, rfl, rfl, hi, HO, HR, HRL, HB, HN⟩ := hrel
    rcases Nat.lt_or_ge i n with hlt | hge
    · rcases HEL.out with h0 | ⟨blk, rfl, hbl, hel⟩
      · omega
      have hlt' : i < ts.length := by rw [← HNN.out]; exact hlt
      obtain ⟨f0, f1, f2, f3, g0, g1, g2, g3, hrep⟩ := hel i hlt'
      have HWr : Hid (Below W.heap.size W wr) := HW.out.trans (HB.out.mono HWb.out)
      have e0 := (HWr.out.cell (p := ⟨blk, i * 4, none⟩) hbl).trans g0
      have e1 := (HWr.out.cell (p := ⟨blk, i * 4 + 1, none⟩) hbl).trans g1
      have e2 := (HWr.out.cell (p := ⟨blk, i * 4 + 2, none⟩) hbl).trans g2
      have e3 := (HWr.out.cell (p := ⟨blk, i * 4 + 3, none⟩) hbl).trans g3
      have HREP := Pl.hid hrep
      have HLT := Pl.hid hlt'
      clear g0 g1 g2 g3 hrep hel
      obtain ⟨q, hq⟩ : ∃ q, q = wr.heap.size := ⟨_, rfl⟩
      have HQ := Pl.hid hq
      clear hq
      obtain ⟨ba, bk, hbv, _⟩ := HO.out.val
      subst hbv
      have hrl : r.length ≤ 1099511627776 := by
        have h1 := RT.encL_le ts i
        have h2 := HLL.out
        have h3 := HRL.out
        simp only [List.length_append] at h1 h2 h3 ⊢
        omega
      by_cases hm : most < (r.length : Int)
      · go_wp2_with (refine Mm.wp_store4 _ rfl _ _ rfl wr.heap.size _ _ _ _ _ _ (heap_alloc_new wr _) rfl rfl rfl HREP.out.one ?_; intro w4 hw4 hs4 hg4; have HW4 := Pl.hid hw4; have HG4 := Pl.hid hg4; have HS4 := Pl.hid hs4; clear hw4 hs4 hg4; have q0 := Mm.cellOf (i := 0) (v := f0) HW4.out rfl; have q1 := Mm.cellOf (i := 1) (v := f1) HW4.out rfl; have q2 := Mm.cellOf (i := 2) (v := f2) HW4.out rfl; have q3 := Mm.cellOf (i := 3) (v := f3) HW4.out rfl; clear e0 e1 e2 e3)
        have HN4 : Hid (Mm.NB w0 w4) := by
          refine HN.out.trans fun g o hg _ => ?_
          have hgl := (Array.getElem?_eq_some_iff.1 hg).1
          exact (HG4.out.block g (by simp; omega) (fun e => by injection e with e; omega)).trans ((Below.heap_alloc _ _ _ hgl).trans hg)
        have HB4 : Hid (Below base w w4) := by
          have hz : base ≤ wr.heap.size := Nat.le_trans HBB.out HB.out.size
          refine (HB.out.alloc hz (.cells #[.int .i64 0, .string ⟨#[]⟩, .int .i64 0, .slice none 0 0] 31)).grown HG4.out (by simp; omega) (fun k hk => by injection hk with hk; omega)
        have HO4 : Hid (Mm.OwnB w4 base (.slice ba r.length bk) r) := (HO.out.keep (w' := wr.alloc (.cells #[.int .i64 0, .string ⟨#[]⟩, .int .i64 0, .slice none 0 0] 31)) (fun g hg => Below.heap_alloc _ _ _ (HO.out.lt g hg).2)).keep fun g hg => HG4.out.block g (by have := (HO.out.lt g hg).2; simp; omega) (fun e => by injection e with e; have := (HO.out.lt g hg).2; omega)
        have hb4 : base ≤ w4.heap.size := Nat.le_trans HBB.out HB4.out.size
        have HLEN4 : Hid (r.length + (ts[i]'HLT.out).enc.length ≤ 1099511627776) := by
          have h1 := RT.encL_le ts (i + 1)
          have h2 := HLL.out
          have h3 := HRL.out
          rw [RT.encL_take ts i HLT.out] at h1
          show _ ≤ _
          simp only [List.length_append] at h1 h2 h3 ⊢
          omega
        have HTOT : Hid ((l ++ ([42] ++ Lib.decDigits n ++ Pl.crlf) ++ RT.encL (ts.take i)).length ≤ l.length + ([42] ++ Lib.decDigits n ++ Pl.crlf ++ RT.encL ts).length) := by
          have h1 := RT.encL_le ts i
          show _ ≤ _
          simp only [List.length_append] at h1 ⊢
          omega
        clear q0 q1 q2 q3
        go_ret
        refine ⟨_, r, rfl, HO4.out, .inr hm, ?_, HB4.out, (Mm.NB.below HB0.out).trans HN4.out⟩
        have h1 := HRL.out
        have h2 := HTOT.out
        refine Nat.le_trans h1 (Nat.le_trans h2 (Nat.le_of_eq ?_))
        simp
      · go_wp2_with (refine Mm.wp_store4 _ rfl _ _ rfl wr.heap.size _ _ _ _ _ _ (heap_alloc_new wr _) rfl rfl rfl HREP.out.one ?_; intro w4 hw4 hs4 hg4; have HW4 := Pl.hid hw4; have HG4 := Pl.hid hg4; have HS4 := Pl.hid hs4; clear hw4 hs4 hg4; have q0 := Mm.cellOf (i := 0) (v := f0) HW4.out rfl; have q1 := Mm.cellOf (i := 1) (v := f1) HW4.out rfl; have q2 := Mm.cellOf (i := 2) (v := f2) HW4.out rfl; have q3 := Mm.cellOf (i := 3) (v := f3) HW4.out rfl; clear e0 e1 e2 e3)
        have HN4 : Hid (Mm.NB w0 w4) := by
          refine HN.out.trans fun g o hg _ => ?_
          have hgl := (Array.getElem?_eq_some_iff.1 hg).1
          exact (HG4.out.block g (by simp; omega) (fun e => by injection e with e; omega)).trans ((Below.heap_alloc _ _ _ hgl).trans hg)
        have HB4 : Hid (Below base w w4) := by
          have hz : base ≤ wr.heap.size := Nat.le_trans HBB.out HB.out.size
          refine (HB.out.alloc hz (.cells #[.int .i64 0, .string ⟨#[]⟩, .int .i64 0, .slice none 0 0] 31)).grown HG4.out (by simp; omega) (fun k hk => by injection hk with hk; omega)
        have HO4 : Hid (Mm.OwnB w4 base (.slice ba r.length bk) r) := (HO.out.keep (w' := wr.alloc (.cells #[.int .i64 0, .string ⟨#[]⟩, .int .i64 0, .slice none 0 0] 31)) (fun g hg => Below.heap_alloc _ _ _ (HO.out.lt g hg).2)).keep fun g hg => HG4.out.block g (by have := (HO.out.lt g hg).2; simp; omega) (fun e => by injection e with e; have := (HO.out.lt g hg).2; omega)
        have hb4 : base ≤ w4.heap.size := Nat.le_trans HBB.out HB4.out.size
        have HLEN4 : Hid (r.length + (ts[i]'HLT.out).enc.length ≤ 1099511627776) := by
          have h1 := RT.encL_le ts (i + 1)
          have h2 := HLL.out
          have h3 := HRL.out
          rw [RT.encL_take ts i HLT.out] at h1
          show _ ≤ _
          simp only [List.length_append] at h1 h2 h3 ⊢
          omega
        have HTOT : Hid ((l ++ ([42] ++ Lib.decDigits n ++ Pl.crlf) ++ RT.encL (ts.take i)).length ≤ l.length + ([42] ++ Lib.decDigits n ++ Pl.crlf ++ RT.encL ts).length) := by
          have h1 := RT.encL_le ts i
          show _ ≤ _
          simp only [List.length_append] at h1 ⊢
          omega
        refine (IH.out _ (List.getElem_mem HLT.out) (HOK.out _ (List.getElem_mem HLT.out)) (HIN.out _ (List.getElem_mem HLT.out)) (HSZ.out _ (List.getElem_mem HLT.out)) f0 f1 f2 f3 HREP.out base _ r w4 (HW.out.trans (HB4.out.mono HWb.out)) HWb.out hb4 HO4.out HLEN4.out).mono ?_
        rintro e w5 ⟨v5, r5, rfl, ho5, hr5, hl5, hb5, hn5⟩
        have HO5 := Pl.hid ho5
        have HB5 := Pl.hid (HB4.out.trans hb5)
        have HN5 := Pl.hid (HN4.out.trans hn5)
        have HR5 : Hid (r5 = l ++ ([42] ++ Lib.decDigits n ++ Pl.crlf) ++ RT.encL (ts.take (i + 1)) ∨ most < (r5.length : Int)) := by
          rcases hr5 with h | h
          · rcases HR.out with h' | h'
            · exact .inl (by rw [h, h', RT.encL_take ts i HLT.out]; simp)
            · exact .inr (by rw [h, List.length_append]; omega)
          · exact .inr h
        have HL5 : Hid (r5.length ≤ (l ++ ([42] ++ Lib.decDigits n ++ Pl.crlf) ++ RT.encL (ts.take (i + 1))).length) := by
          have h1 := HRL.out
          show _ ≤ _
          rw [RT.encL_take ts i HLT.out]
          simp only [List.length_append] at h1 ⊢
          omega
        clear ho5 hb5 hn5 hr5 hl5 q0 q1 q2 q3 hm
        go_wp2_with fail
        go_roundw
        case rel => exact ⟨i + 1, v5, r5, by go_num, rfl, by omega, HO5, HR5, HL5, HB5, HN5⟩
        case measure => simp [intOf]; omega
    · obtain rfl : i = n := by omega
      go_wp2_with fail
      go_ret
      have h := HR.out
      have h2 := HRL.out
      rw [HNN.out, List.take_length] at h h2
      rw [← HNN.out] at h h2
      exact ⟨_, r, rfl, HO.out, h.imp (fun e => by simpa using e) id, by simpa using h2, HB.out, (Mm.NB.below HB0.out).trans HN.out⟩
end Go.Proofs.YtakldjdohgmeiaaDoor

namespace Go.Proofs.YtakldjdohgmeiaaDoor
open Go.RowKit
set_option maxRecDepth 20000

theorem Mm.OwnB.baseO {w : World} {b b' : Nat} {v : Value} {l : List UInt8} (h : Mm.OwnB w b v l) (hb : b' ≤ b) : Mm.OwnB w b' v l := by
  obtain ⟨hl, h0 | ⟨g, cap, cur, hv, hg, r⟩⟩ := h
  · exact ⟨hl, .inl h0⟩
  · exact ⟨hl, .inr ⟨g, cap, cur, hv, Nat.le_trans hb hg, r⟩⟩
set_option maxHeartbeats 8000000 in
theorem bulksO_walk (v : Value) (ws : List (List UInt8)) (w : World) (hv : Mm.RowT w v ws) (hn : ws.length ≤ 1048576) (hs : ∀ s ∈ ws, s.length ≤ 1048576) :
    Calls Tryd.prog 13 #[v] w fun e w' => ∃ c0 c1 c2 c3, e = .returned (.agg #[c0, c1, c2, c3]) ∧ Mm.OwnT w' w.heap.size (Pl.reqT ws) [c0, c1, c2, c3] ∧ Below w.heap.size w w' := by
  obtain ⟨a, c, rfl, hc, hcell⟩ := hv
  obtain ⟨n, hnn⟩ : ∃ n, n = ws.length := ⟨_, rfl⟩
  rw [← hnn] at hc hcell hn ⊢
  have HNN := Pl.hid hnn
  have HCELL := Pl.hid hcell
  have HSS := Pl.hid hs
  clear hcell hnn hs
  go_enter Tryd.func13, Tryd.ntmps13
  go_wp2_with fail
  generalize hw3 : World.alloc _ _ = w3
  obtain ⟨p, hp⟩ : ∃ p, p = w.heap.size + 1 := ⟨_, rfl⟩
  obtain ⟨r, hr⟩ : ∃ r, r = w.heap.size := ⟨_, rfl⟩
  have HP3 : Hid (w3.heap[p]? = some (.cells #[.int .i64 6, .string ⟨#[]⟩, .int .i64 0, .slice none 0 0] 31 (0, 0))) := by
    show _ = _
    rw [← hw3, hp]
    have := heap_alloc_new (w.alloc (.cells #[.int .i64 0, .string ⟨#[]⟩, .int .i64 0, .slice none 0 0] 31)) (.cells #[.int .i64 6, .string ⟨#[]⟩, .int .i64 0, .slice none 0 0] 31)
    simpa using this
  have HR3 : Hid (w3.heap[r]? = some (.cells #[.int .i64 0, .string ⟨#[]⟩, .int .i64 0, .slice none 0 0] 31 (0, 0))) := by
    show _ = _
    rw [← hw3, hr, Below.heap_alloc _ _ _ (by simp)]
    exact heap_alloc_new w _
  have HB3 : Hid (Below w.heap.size w w3) := by rw [← hw3]; exact ((Below.refl _ _).alloc (Nat.le_refl _) _).alloc (by simp) _
  have HS3 : Hid (w3.heap.size = w.heap.size + 2) := by show _ = _; rw [← hw3]; simp
  have HPR : Hid (p = w.heap.size + 1 ∧ r = w.heap.size) := ⟨hp, hr⟩
  obtain ⟨lo, hlo⟩ : ∃ lo, lo = w3.heap.size := ⟨_, rfl⟩
  have HLO : Hid (lo = w.heap.size + 2 ∧ lo = w3.heap.size) := ⟨hlo.trans HS3.out, hlo⟩
  rw [← hp, ← hr]
  clear hw3 hp hr hlo
  go_loopw [9] (fun iv wr => ∃ (i : Nat) (lv : Value), iv = .int .i64 i ∧ i ≤ n ∧ Hid (wr.heap[p]? = some (.cells #[.int .i64 6, .string ⟨#[]⟩, .int .i64 0, lv] 31 (0, 0))) ∧
      Hid (wr.heap[r]? = some (.cells #[.int .i64 0, .string ⟨#[]⟩, .int .i64 0, .slice none 0 0] 31 (0, 0))) ∧ Hid (Mm.OwnL wr lo lv ((ws.take i).map Pl.bulkT)) ∧ Hid (Below w.heap.size w wr ∧ lo ≤ wr.heap.size)) (fun iv _ => n - (intOf iv).toNat)
  case atStart => exact ⟨0, .slice none 0 0, rfl, Nat.zero_le _, HP3, HR3, Mm.OwnL.nil w3 lo, HB3.out, Nat.le_of_eq HLO.out.2⟩
  case round =>
    obtain ⟨i, lv, rfl, hi, HP, HR, HO, HBr⟩ := hrel
    rcases Nat.lt_or_ge i n with hlt | hge
    · obtain ⟨g, o, rfl, hm⟩ := HCELL.out (by omega)
      obtain ⟨s, hs⟩ : ∃ s, ws[i]? = some s := ⟨_, List.getElem?_eq_getElem (by rw [← HNN.out]; exact hlt)⟩
      have hc0 := hm i s hs
      have hcs := (HBr.out.1.cell (p := ⟨g, o + i, none⟩) (World.block_lt_of_cell? _ _ hc0)).trans hc0
      have HS := Pl.hid hs
      have hpl : p < wr.heap.size := (Array.getElem?_eq_some_iff.1 HP.out).1
      have HPLT := Pl.hid hpl
      have HLN : Hid (((ws.take i).map Pl.bulkT).length < 1073741824) := by show _ < _; rw [List.length_map, List.length_take]; omega
      have p3 : wr.cell? ⟨p, 3, none⟩ = some lv := Mm.cellOf HP.out rfl
      have ST5 : Hid (∀ (w5 : World), Below wr.heap.size wr w5 → w5.cell? ⟨p, 3, none⟩ = some lv ∧ (w5.alloc (.cells #[.int .i64 4, .string (Pl.B s), .int .i64 0, .slice none 0 0] 31)).cell? ⟨p, 3, none⟩ = some lv ∧
          Hid (Mm.OwnT w5 wr.heap.size (Pl.bulkT s) [.int .i64 4, .string (Pl.B s), .int .i64 0, .slice none 0 0]) ∧ Hid (Below wr.heap.size wr w5) ∧ Hid (w5.heap[p]? = some (.cells #[.int .i64 6, .string ⟨#[]⟩, .int .i64 0, lv] 31 (0, 0))) ∧ Hid (w5.heap[r]? = some (.cells #[.int .i64 0, .string ⟨#[]⟩, .int .i64 0, .slice none 0 0] 31 (0, 0)))) := fun w5 hb => by
        have h5 := (hb.block p HPLT.out).trans HP.out
        have c5 : w5.cell? ⟨p, 3, none⟩ = some lv := Mm.cellOf h5 rfl
        exact ⟨c5, (World.cell?_alloc_old _ _ _ (Nat.ne_of_lt (Nat.lt_of_lt_of_le HPLT.out hb.size))).trans c5, (Mm.OwnL.nil w5 wr.heap.size).rep 4 (Pl.B s) 0, hb, h5, (hb.block r (Array.getElem?_eq_some_iff.1 HR.out).1).trans HR.out⟩
      have ST6 : Hid (∀ (w5 w6 : World), w5.heap[p]? = some (.cells #[.int .i64 6, .string ⟨#[]⟩, .int .i64 0, lv] 31 (0, 0)) → Below lo w5 w6 → w6.cell? ⟨p, 3, none⟩ = some lv ∧ w6.frozen? ⟨p, 3, none⟩ = false) := fun w5 w6 h5 hb => by
        have h6 := (hb.block p (by have := HLO.out; have := HPR.out; omega)).trans h5
        exact ⟨Mm.cellOf h6 rfl, Mm.frozenOf h6⟩
      clear hm hc0 hs
      go_wp2_with fail
      clear hcs
      go_region_law (first
        | (go_simp; go_at_call 31; refine (mk_bulk (Pl.B s) _).mono ?_; rintro e w5 ⟨rfl, hb5⟩; obtain ⟨p5, p5a, HT5, HB5, HP5, HR5⟩ := ST5.out w5 (by first | exact hb5 | exact Mm.undrew hb5); clear hb5)
        | (refine Mm.step_appR _ (by rfl) _ _ (by rfl) wr w5 lo lv ((ws.take i).map Pl.bulkT) (by rfl) HO.out (Pl.bulkT s) [.int .i64 4, .string (Pl.B s), .int .i64 0, .slice none 0 0] HT5.out (by rfl) (by rfl) HB5.out HLN.out HBr.out.2 ?_; intro v6 w6 ho6 hb6 _; obtain ⟨a6, k6, rfl⟩ := ho6.val; obtain ⟨p6, pf6⟩ := ST6.out w5 w6 HP5.out hb6; have HO6 := Pl.hid ho6; have HB6 := Pl.hid hb6; clear ho6 hb6))
      all_goals
        have HV : Hid (((ws.take i).map Pl.bulkT ++ [Pl.bulkT s]).length = min i ws.length + 1) := by show _ = _; simp
        have HVT : Hid ((ws.take i).map Pl.bulkT ++ [Pl.bulkT s] = (ws.take (i + 1)).map Pl.bulkT) := by show _ = _; rw [List.take_add_one, HS.out]; simp
        have HO6' : Hid (Mm.OwnL w6 lo (.slice a6 (min i ws.length + 1) k6) ((ws.take (i + 1)).map Pl.bulkT)) := by
          have := HO6.out
          rw [HV.out, HVT.out] at this
          exact this
        have HP7 := Pl.hid (Mm.heapSet ((HB6.out.block p (by have := HLO.out; have := HPR.out; omega)).trans HP5.out) 3 (.slice a6 (min i ws.length + 1) k6))
        have HG7 := Pl.hid (Mm.grownSet w6 p 3 (.slice a6 (min i ws.length + 1) k6))
        generalize World.setCell w6 _ _ = w7 at HP7 HG7 ⊢
        clear p6 pf6 p5 p5a p3 HO6
        go_wp2_with fail
        have hlo := HLO.out
        have hpr := HPR.out
        have h5z := HB5.out.size
        have h6z := HB6.out.size
        have hbr := HBr.out.2
        refine ⟨⟨i + 1, _, by go_num, hlt, HP7, ?_, ?_, ?_⟩, by simp [intOf]; omega⟩
        · show _ = _
          have hrl := (Array.getElem?_eq_some_iff.1 HR.out).1
          rw [HG7.out.block r (by omega) (by intro e; cases e; omega), HB6.out.block r (by omega)]
          exact HR5.out
        · exact HO6'.out.keepLo fun g hg hgl => HG7.out.block g hgl (by intro e; cases e; omega)
        · refine ⟨(HBr.out.1.trans (((HB5.out.mono (by omega)).trans (HB6.out.mono (by omega))))).grown HG7.out (by have := HBr.out.1.size; omega) (fun k hk => by cases hk; omega), ?_⟩
          have := HG7.out.size
          omega
    · have hie : i = n := by omega
      subst hie
      have HO' : Hid (Mm.OwnL wr lo lv (ws.map Pl.bulkT)) := by have := HO.out; rw [HNN.out, List.take_length] at this; exact this
      have p0 := Mm.cellOf (i := 0) (v := .int .i64 6) HP.out rfl
      have p1 := Mm.cellOf (i := 1) (v := .string ⟨#[]⟩) HP.out rfl
      have p2 := Mm.cellOf (i := 2) (v := .int .i64 0) HP.out rfl
      have p3 := Mm.cellOf (i := 3) (v := lv) HP.out rfl
      go_wp2_with (refine Mm.wp_store4 _ rfl _ _ rfl r _ _ (.int .i64 6) (.string ⟨#[]⟩) (.int .i64 0) lv HR.out rfl rfl rfl (by intro u hu; simp only [List.mem_cons, List.mem_nil_iff, or_false] at hu; rcases hu with rfl | rfl | rfl | rfl <;> first | rfl | exact HO'.out.one.1) ?_; intro wf hwf hsf hgf; have HWF := Pl.hid hwf; have HG := Pl.hid hgf; clear hwf hsf hgf)
      have hlo := HLO.out
      have hpr := HPR.out
      have hbr := HBr.out.2
      (try simp only [Exit.inBlock, Exit.then])
      refine bodyPost_ret (Mm.res_cell rfl _ wf r _ _ _ _ _ _ rfl HWF.out) rfl ?_
      refine ⟨_, _, _, _, rfl, ?_, HBr.out.1.grown HG.out (by omega) (fun k hk => by cases hk; omega)⟩
      refine ((HO'.out.rep 6 ⟨#[]⟩ 0).keepLo (fun g hg hgl => HG.out.block g hgl ?_)).lo (by omega)
      intro e
      cases e
      omega
set_option maxHeartbeats 8000000 in
theorem rbulksO_walk (v : Value) (ws : List (List UInt8)) (w : World) (hv : Mm.RowT w v ws) (hn : ws.length ≤ 1048576) (hs : ∀ s ∈ ws, s.length ≤ 1048576) :
    Calls Tryd.prog 35 #[v] w fun e w' => ∃ c0 c1 c2 c3, e = .returned (.agg #[c0, c1, c2, c3]) ∧ Mm.OwnT w' w.heap.size (Pl.reqT ws) [c0, c1, c2, c3] ∧ Below w.heap.size w w' := by
  obtain ⟨a, c, rfl, hc, hcell⟩ := hv
  obtain ⟨n, hnn⟩ : ∃ n, n = ws.length := ⟨_, rfl⟩
  rw [← hnn] at hc hcell hn ⊢
  have HNN := Pl.hid hnn
  have HCELL := Pl.hid hcell
  have HSS := Pl.hid hs
  clear hcell hnn hs
  go_enter Tryd.func35, Tryd.ntmps35
  go_wp2_with fail
  generalize hw3 : World.alloc _ _ = w3
  obtain ⟨p, hp⟩ : ∃ p, p = w.heap.size + 1 := ⟨_, rfl⟩
  obtain ⟨r, hr⟩ : ∃ r, r = w.heap.size := ⟨_, rfl⟩
  have HP3 : Hid (w3.heap[p]? = some (.cells #[.int .i64 6, .string ⟨#[]⟩, .int .i64 0, .slice none 0 0] 31 (0, 0))) := by
    show _ = _
    rw [← hw3, hp]
    have := heap_alloc_new (w.alloc (.cells #[.int .i64 0, .string ⟨#[]⟩, .int .i64 0, .slice none 0 0] 31)) (.cells #[.int .i64 6, .string ⟨#[]⟩, .int .i64 0, .slice none 0 0] 31)
    simpa using this
  have HR3 : Hid (w3.heap[r]? = some (.cells #[.int .i64 0, .string ⟨#[]⟩, .int .i64 0, .slice none 0 0] 31 (0, 0))) := by
    show _ = _
    rw [← hw3, hr, Below.heap_alloc _ _ _ (by simp)]
    exact heap_alloc_new w _
  have HB3 : Hid (Below w.heap.size w w3) := by rw [← hw3]; exact ((Below.refl _ _).alloc (Nat.le_refl _) _).alloc (by simp) _
  have HS3 : Hid (w3.heap.size = w.heap.size + 2) := by show _ = _; rw [← hw3]; simp
  have HPR : Hid (p = w.heap.size + 1 ∧ r = w.heap.size) := ⟨hp, hr⟩
  obtain ⟨lo, hlo⟩ : ∃ lo, lo = w3.heap.size := ⟨_, rfl⟩
  have HLO : Hid (lo = w.heap.size + 2 ∧ lo = w3.heap.size) := ⟨hlo.trans HS3.out, hlo⟩
  rw [← hp, ← hr]
  clear hw3 hp hr hlo
  go_loopw [9] (fun iv wr => ∃ (i : Nat) (lv : Value), iv = .int .i64 i ∧ i ≤ n ∧ Hid (wr.heap[p]? = some (.cells #[.int .i64 6, .string ⟨#[]⟩, .int .i64 0, lv] 31 (0, 0))) ∧
      Hid (wr.heap[r]? = some (.cells #[.int .i64 0, .string ⟨#[]⟩, .int .i64 0, .slice none 0 0] 31 (0, 0))) ∧ Hid (Mm.OwnL wr lo lv ((ws.take i).map Pl.bulkT)) ∧ Hid (Below w.heap.size w wr ∧ lo ≤ wr.heap.size)) (fun iv _ => n - (intOf iv).toNat)
  case atStart => exact ⟨0, .slice none 0 0, rfl, Nat.zero_le _, HP3, HR3, Mm.OwnL.nil w3 lo, HB3.out, Nat.le_of_eq HLO.out.2⟩
  case round =>
    obtain ⟨i, lv, rfl, hi, HP, HR, HO, HBr⟩ := hrel
    rcases Nat.lt_or_ge i n with hlt | hge
    · obtain ⟨g, o, rfl, hm⟩ := HCELL.out (by omega)
      obtain ⟨s, hs⟩ : ∃ s, ws[i]? = some s := ⟨_, List.getElem?_eq_getElem (by rw [← HNN.out]; exact hlt)⟩
      have hc0 := hm i s hs
      have hcs := (HBr.out.1.cell (p := ⟨g, o + i, none⟩) (World.block_lt_of_cell? _ _ hc0)).trans hc0
      have HS := Pl.hid hs
      have hpl : p < wr.heap.size := (Array.getElem?_eq_some_iff.1 HP.out).1
      have HPLT := Pl.hid hpl
      have HLN : Hid (((ws.take i).map Pl.bulkT).length < 1073741824) := by show _ < _; rw [List.length_map, List.length_take]; omega
      have p3 : wr.cell? ⟨p, 3, none⟩ = some lv := Mm.cellOf HP.out rfl
      have ST5 : Hid (∀ (w5 : World), Below wr.heap.size wr w5 → w5.cell? ⟨p, 3, none⟩ = some lv ∧ (w5.alloc (.cells #[.int .i64 4, .string (Pl.B s), .int .i64 0, .slice none 0 0] 31)).cell? ⟨p, 3, none⟩ = some lv ∧
          Hid (Mm.OwnT w5 wr.heap.size (Pl.bulkT s) [.int .i64 4, .string (Pl.B s), .int .i64 0, .slice none 0 0]) ∧ Hid (Below wr.heap.size wr w5) ∧ Hid (w5.heap[p]? = some (.cells #[.int .i64 6, .string ⟨#[]⟩, .int .i64 0, lv] 31 (0, 0))) ∧ Hid (w5.heap[r]? = some (.cells #[.int .i64 0, .string ⟨#[]⟩, .int .i64 0, .slice none 0 0] 31 (0, 0)))) := fun w5 hb => by
        have h5 := (hb.block p HPLT.out).trans HP.out
        have c5 : w5.cell? ⟨p, 3, none⟩ = some lv := Mm.cellOf h5 rfl
        exact ⟨c5, (World.cell?_alloc_old _ _ _ (Nat.ne_of_lt (Nat.lt_of_lt_of_le HPLT.out hb.size))).trans c5, (Mm.OwnL.nil w5 wr.heap.size).rep 4 (Pl.B s) 0, hb, h5, (hb.block r (Array.getElem?_eq_some_iff.1 HR.out).1).trans HR.out⟩
      have ST6 : Hid (∀ (w5 w6 : World), w5.heap[p]? = some (.cells #[.int .i64 6, .string ⟨#[]⟩, .int .i64 0, lv] 31 (0, 0)) → Below lo w5 w6 → w6.cell? ⟨p, 3, none⟩ = some lv ∧ w6.frozen? ⟨p, 3, none⟩ = false) := fun w5 w6 h5 hb => by
        have h6 := (hb.block p (by have := HLO.out; have := HPR.out; omega)).trans h5
        exact ⟨Mm.cellOf h6 rfl, Mm.frozenOf h6⟩
      clear hm hc0 hs
      go_wp2_with fail
      clear hcs
      go_region_law (first
        | (go_simp; go_at_call 32; refine (mk_rbulk (Pl.B s) _).mono ?_; rintro e w5 ⟨rfl, hb5⟩; obtain ⟨p5, p5a, HT5, HB5, HP5, HR5⟩ := ST5.out w5 (by first | exact hb5 | exact Mm.undrew hb5); clear hb5)
        | (refine Mm.step_appR _ (by rfl) _ _ (by rfl) wr w5 lo lv ((ws.take i).map Pl.bulkT) (by rfl) HO.out (Pl.bulkT s) [.int .i64 4, .string (Pl.B s), .int .i64 0, .slice none 0 0] HT5.out (by rfl) (by rfl) HB5.out HLN.out HBr.out.2 ?_; intro v6 w6 ho6 hb6 _; obtain ⟨a6, k6, rfl⟩ := ho6.val; obtain ⟨p6, pf6⟩ := ST6.out w5 w6 HP5.out hb6; have HO6 := Pl.hid ho6; have HB6 := Pl.hid hb6; clear ho6 hb6))
      all_goals
        have HV : Hid (((ws.take i).map Pl.bulkT ++ [Pl.bulkT s]).length = min i ws.length + 1) := by show _ = _; simp
        have HVT : Hid ((ws.take i).map Pl.bulkT ++ [Pl.bulkT s] = (ws.take (i + 1)).map Pl.bulkT) := by show _ = _; rw [List.take_add_one, HS.out]; simp
        have HO6' : Hid (Mm.OwnL w6 lo (.slice a6 (min i ws.length + 1) k6) ((ws.take (i + 1)).map Pl.bulkT)) := by
          have := HO6.out
          rw [HV.out, HVT.out] at this
          exact this
        have HP7 := Pl.hid (Mm.heapSet ((HB6.out.block p (by have := HLO.out; have := HPR.out; omega)).trans HP5.out) 3 (.slice a6 (min i ws.length + 1) k6))
        have HG7 := Pl.hid (Mm.grownSet w6 p 3 (.slice a6 (min i ws.length + 1) k6))
        generalize World.setCell w6 _ _ = w7 at HP7 HG7 ⊢
        clear p6 pf6 p5 p5a p3 HO6
        go_wp2_with fail
        have hlo := HLO.out
        have hpr := HPR.out
        have h5z := HB5.out.size
        have h6z := HB6.out.size
        have hbr := HBr.out.2
        refine ⟨⟨i + 1, _, by go_num, hlt, HP7, ?_, ?_, ?_⟩, by simp [intOf]; omega⟩
        · show _ = _
          have hrl := (Array.getElem?_eq_some_iff.1 HR.out).1
          rw [HG7.out.block r (by omega) (by intro e; cases e; omega), HB6.out.block r (by omega)]
          exact HR5.out
        · exact HO6'.out.keepLo fun g hg hgl => HG7.out.block g hgl (by intro e; cases e; omega)
        · refine ⟨(HBr.out.1.trans (((HB5.out.mono (by omega)).trans (HB6.out.mono (by omega))))).grown HG7.out (by have := HBr.out.1.size; omega) (fun k hk => by cases hk; omega), ?_⟩
          have := HG7.out.size
          omega
    · have hie : i = n := by omega
      subst hie
      have HO' : Hid (Mm.OwnL wr lo lv (ws.map Pl.bulkT)) := by have := HO.out; rw [HNN.out, List.take_length] at this; exact this
      have p0 := Mm.cellOf (i := 0) (v := .int .i64 6) HP.out rfl
      have p1 := Mm.cellOf (i := 1) (v := .string ⟨#[]⟩) HP.out rfl
      have p2 := Mm.cellOf (i := 2) (v := .int .i64 0) HP.out rfl
      have p3 := Mm.cellOf (i := 3) (v := lv) HP.out rfl
      go_wp2_with (refine Mm.wp_store4 _ rfl _ _ rfl r _ _ (.int .i64 6) (.string ⟨#[]⟩) (.int .i64 0) lv HR.out rfl rfl rfl (by intro u hu; simp only [List.mem_cons, List.mem_nil_iff, or_false] at hu; rcases hu with rfl | rfl | rfl | rfl <;> first | rfl | exact HO'.out.one.1) ?_; intro wf hwf hsf hgf; have HWF := Pl.hid hwf; have HG := Pl.hid hgf; clear hwf hsf hgf)
      have hlo := HLO.out
      have hpr := HPR.out
      have hbr := HBr.out.2
      (try simp only [Exit.inBlock, Exit.then])
      refine bodyPost_ret (Mm.res_cell rfl _ wf r _ _ _ _ _ _ rfl HWF.out) rfl ?_
      refine ⟨_, _, _, _, rfl, ?_, HBr.out.1.grown HG.out (by omega) (fun k hk => by cases hk; omega)⟩
      refine ((HO'.out.rep 6 ⟨#[]⟩ 0).keepLo (fun g hg hgl => HG.out.block g hgl ?_)).lo (by omega)
      intro e
      cases e
      omega

theorem requestO_walk (v : Value) (ws : List (List UInt8)) (W w : World) (hT : Mm.Tab W) (hW : Below W.heap.size W w) (hv : Mm.RowT w v ws) (hws : ws.length + (ws.map List.length).sum ≤ 1048576) (hs : ∀ s ∈ ws, s.length ≤ 1048576) :
    Calls Tryd.prog 11 #[v] w fun e w' => ∃ v', e = .returned v' ∧ Mm.OwnB w' w.heap.size v' (Pl.reqE ws) ∧ Below w.heap.size w w' := by
  have HT := Pl.hid hT
  have HW := Pl.hid hW
  have HV := Pl.hid hv
  have HS := Pl.hid hs
  have HWS := Pl.hid hws
  have HRE := Pl.hid (Pl.reqE_le ws hws)
  clear hT hW hv hs hws
  go_enter Tryd.func11, Tryd.ntmps11
  go_wp2_with fail
  refine (bulksO_walk v ws w HV.out (by have := HWS.out; omega) HS.out).mono ?_
  rintro e w1 ⟨c0, c1, c2, c3, rfl, hx, hb1⟩
  have HB1 := Pl.hid hb1
  have HX := Pl.hid hx.x
  clear hx hb1
  go_wp2_with fail
  refine (lay_arr ws c0 c1 c2 c3 w1.heap.size _ [] w1 w1 (HT.out.on (HW.out.trans (HB1.out.mono HW.out.size))) HX.out (Below.refl _ _) (Nat.le_refl _) (Nat.le_refl _) (Mm.ownB_nil _ _) (by have := HRE.out; simp only [List.length_nil]; omega) (by have := HWS.out; omega) (fun s h => by have := HS.out s h; omega)).mono ?_
  rintro e w2 ⟨v2, rfl, ho2, hb2, _⟩
  have HO2 := Pl.hid ho2
  have HB2 := Pl.hid hb2
  clear ho2 hb2
  go_wp2_with fail
  go_ret
  refine ⟨_, rfl, ?_, HB1.out.trans (HB2.out.mono HB1.out.size)⟩
  have := HO2.out
  rw [List.nil_append] at this
  exact this.baseO HB1.out.size

theorem rrequest_walk (v : Value) (ws : List (List UInt8)) (w : World) (hv : Mm.RowT w v ws) (hws : ws.length + (ws.map List.length).sum ≤ 1048576) (hs : ∀ s ∈ ws, s.length ≤ 1048576) :
    Calls Tryd.prog 36 #[v] w fun e w' => ∃ v', e = .returned v' ∧ Mm.OwnB w' w.heap.size v' (Pl.reqE ws) ∧ Below w.heap.size w w' := by
  have HV := Pl.hid hv
  have HS := Pl.hid hs
  have HWS := Pl.hid hws
  have HRE := Pl.hid (Pl.reqE_le ws hws)
  have HOK := Pl.hid (Pl.reqT_ok ws hws)
  clear hv hs hws
  go_enter Tryd.func36, Tryd.ntmps36
  go_wp2_with fail
  refine (rbulksO_walk v ws w HV.out (by have := HWS.out; omega) HS.out).mono ?_
  rintro e w1 ⟨c0, c1, c2, c3, rfl, hx, hb1⟩
  have HB1 := Pl.hid hb1
  have HX := Pl.hid hx.x
  clear hx hb1
  go_wp2_with fail
  refine (written_walk w1 _ (Pl.reqT ws) HOK.out.1 HOK.out.2.1 HOK.out.2.2.2.2.1 c0 c1 c2 c3 HX.out w1.heap.size _ [] w1 (Below.refl _ _) (Nat.le_refl _) (Nat.le_refl _) (Mm.ownB_nil _ _) (by rw [HOK.out.2.2.2.1]; have := HRE.out; simp only [List.length_nil]; omega)).mono ?_
  rintro e w2 ⟨v2, r, rfl, ho2, hr, hrl, hb2, _⟩
  have HO2 := Pl.hid ho2
  have HB2 := Pl.hid hb2
  have HRR : Hid (r = Pl.reqE ws) := by
    have h1 := HRE.out
    rw [HOK.out.2.2.2.1] at hr hrl
    rcases hr with h | h
    · exact h
    · simp only [List.length_nil] at hrl
      omega
  clear ho2 hb2 hr hrl
  go_wp2_with fail
  go_ret
  refine ⟨_, rfl, ?_, HB1.out.trans (HB2.out.mono HB1.out.size)⟩
  have := HO2.out
  rw [HRR.out] at this
  exact this.baseO HB1.out.size
end Go.Proofs.YtakldjdohgmeiaaDoor

namespace Go.Proofs.YtakldjdohgmeiaaDoor
set_option maxRecDepth 20000
namespace Pl
def sub1 (c d x : UInt8) : UInt8 := if x = c then d else x
theorem replK_eq (c d : UInt8) (k : Nat) (l : List UInt8) : Lib.replaceK [c] [d] (k + 1) (c :: l) = d :: Lib.replaceK [c] [d] k l := by
  have hix : Lib.index (c :: l) [c] = ((0 : Nat) : Int) := by rw [Lib.index]; simp [List.isPrefixOf]
  rw [Lib.replaceK_hit _ _ _ _ 0 hix]
  simp
theorem replK_ne (c d b : UInt8) (h : b ≠ c) (k : Nat) (l : List UInt8) : Lib.replaceK [c] [d] k (b :: l) = b :: Lib.replaceK [c] [d] k l := by
  cases k with
  | zero => rfl
  | succ k =>
    have hp : ([c] : List UInt8).isPrefixOf (b :: l) = false := by simp [List.isPrefixOf, Ne.symm h]
    have hix : Lib.index (b :: l) [c] = if Lib.index l [c] == -1 then -1 else Lib.index l [c] + 1 := by rw [Lib.index, hp]; simp
    have hge := Lib.index_ge l [c]
    by_cases hm : Lib.index l [c] = -1
    · have e1 : Lib.index (b :: l) [c] = -1 := by rw [hix, hm]; first | done | rfl
      rw [Lib.replaceK, Lib.replaceK, e1, hm]
      rfl
    · obtain ⟨i, hi⟩ : ∃ i : Nat, Lib.index l [c] = i := ⟨_, (Int.toNat_of_nonneg (by omega)).symm⟩
      have e1 : Lib.index (b :: l) [c] = ((i + 1 : Nat) : Int) := by
        rw [hix, hi, if_neg (by simp <;> omega)]
        omega
      rw [Lib.replaceK_hit _ _ _ _ (i + 1) e1, Lib.replaceK_hit _ _ _ _ i hi]
      simp
theorem replAll (c d : UInt8) (h : c ≠ d) (l : List UInt8) : Lib.replaceAll l [c] [d] = l.map (sub1 c d) := by
  unfold Lib.replaceAll Lib.replace Lib.replaceNum
  rw [if_neg (by simpa using h), if_pos (.inl (by decide)), Lib.count_one]
  induction l with
  | nil => rfl
  | cons b l ih =>
    by_cases hb : b = c
    · subst hb
      rw [List.count_cons_self, replK_eq, ih]
      simp [sub1]
    · rw [List.count_cons_of_ne hb, replK_ne c d b hb, ih]
      simp [sub1, hb]
/-- what Error makes of a text -/
def errL (l : List UInt8) : List UInt8 := l.map fun c => if isEnd c then 32 else c
def errT (s : ByteArray) : ByteArray := B (errL (L s))
theorem errL_eq (l : List UInt8) : Lib.replaceAll (Lib.replaceAll l [13] [32]) [10] [32] = errL l := by
  rw [replAll 13 32 (by decide), replAll 10 32 (by decide), List.map_map]
  unfold errL
  apply List.map_congr_left
  intro c _
  unfold sub1 isEnd
  by_cases h1 : c = 13
  · subst h1; decide
  · by_cases h2 : c = 10
    · subst h2; decide
    · simp [h1, h2]
theorem errT_size (s : ByteArray) : (errT s).size = s.size := by
  unfold errT errL
  rw [B_size, List.length_map, L_length]
theorem errT_noEnd (s : ByteArray) : noEnd (L (errT s)) = true := by
  unfold errT errL
  rw [L_B]
  unfold noEnd
  rw [List.all_eq_true]
  intro c hc
  obtain ⟨x, _, rfl⟩ := List.mem_map.1 hc
  by_cases h : isEnd x = true
  · rw [if_pos h]; decide
  · rw [if_neg h]
    simpa using h
theorem errT_data (s : ByteArray) : (⟨(Lib.replaceAll (⟨(Lib.replaceAll s.data.toList [13] [32]).toArray⟩ : ByteArray).data.toList [10] [32]).toArray⟩ : ByteArray) = errT s := by
  apply ba_ext
  show (Lib.replaceAll (Lib.replaceAll s.data.toList [13] [32]) [10] [32]) = _
  rw [errL_eq]
  unfold errT
  rw [L_B]
  rfl
end Pl
end Go.Proofs.YtakldjdohgmeiaaDoor

namespace Go.Proofs.YtakldjdohgmeiaaDoor
open Go.RowKit
set_option maxRecDepth 20000

theorem extra155 : Builder.Extra Tryd.prog Tryd.lays155_ren where
  sizeBuilder := by kernel_rfl
  liesBuilder := by kernel_rfl
  t5 := Tryd.lays155.t5
  a5 := Tryd.lays155.a5
  z5 := Tryd.lays155.z5
  v5 := Tryd.lays155.v5
  infoByte := by kernel_rfl
  cellsByte := by kernel_rfl
  sizeByte := by kernel_rfl
  neB5 := by decide

theorem replaceAll_walk (s : ByteArray) (c d : UInt8) (w : World) (hX : Mm.MaxI w) (hs : s.size ≤ 100000000) :
    Calls Tryd.prog 51 #[.string s, .string ⟨#[c]⟩, .string ⟨#[d]⟩] w fun e w' => e = .returned (.string ⟨(Lib.replaceAll s.data.toList [c] [d]).toArray⟩) ∧ Below w.heap.size w w' := by
  obtain ⟨m, hm⟩ := hX.here
  refine Any.strings_ReplaceAll Tryd.lays155 extra155 s ⟨#[c]⟩ ⟨#[d]⟩ m w (by omega) hm (Nat.le_refl 1) ?_
  have h : Lib.countB s ⟨#[c]⟩ ≤ s.size + 1 := Lib.count_le s.data.toList [c]
  have e : (⟨#[d]⟩ : ByteArray).size = 1 := rfl
  rw [e]
  omega

namespace Pl
def e1 (c : UInt8) : UInt8 := if isEnd c then 32 else c
def mixV (l : List UInt8) (i j : Nat) : Value := .int .u8 (((if j < i then e1 (l.getD j 0) else l.getD j 0).toNat : Nat) : Int)
theorem mixV_here (l : List UInt8) (i : Nat) : mixV l i i = .int .u8 (((l.getD i 0).toNat : Nat) : Int) := by unfold mixV; rw [if_neg (Nat.lt_irrefl _)]
/-- a row whose first n places are those of the mix -/
def Mix (l : List UInt8) (n i C : Nat) (cur : Array Value) : Prop := cur.size = C ∧ n ≤ C ∧ ∀ j, j < n → cur[j]? = some (mixV l i j)
theorem Mix.same {l : List UInt8} {n i C : Nat} {cur : Array Value} (h : Mix l n i C cur) (hx : isEnd (l.getD i 0) = false) : Mix l n (i + 1) C cur := ⟨h.1, h.2.1, fun j hj => by
  rw [h.2.2 j hj]
  unfold mixV
  by_cases h1 : j = i
  · subst h1
    rw [if_neg (Nat.lt_irrefl _), if_pos (Nat.lt_succ_self _)]
    unfold e1
    rw [if_neg (by rw [hx]; simp)]
  · by_cases h2 : j < i
    · rw [if_pos h2, if_pos (by omega)]
    · rw [if_neg h2, if_neg (by omega)]⟩
theorem Mix.set {l : List UInt8} {n i C : Nat} {cur : Array Value} (h : Mix l n i C cur) (hi : i < n) (hx : isEnd (l.getD i 0) = true) : Mix l n (i + 1) C (cur.setIfInBounds i (.int .u8 32)) := ⟨by rw [Array.size_setIfInBounds]; exact h.1, h.2.1, fun j hj => by
  by_cases h1 : j = i
  · subst h1
    have hs : j < cur.size := by rw [h.1]; have := h.2.1; omega
    rw [Array.getElem?_setIfInBounds_self_of_lt hs]
    unfold mixV
    rw [if_pos (Nat.lt_succ_self _)]
    unfold e1
    rw [if_pos hx]
    rfl
  · rw [Array.getElem?_setIfInBounds_ne (Ne.symm h1), h.2.2 j hj]
    unfold mixV
    by_cases h2 : j < i
    · rw [if_pos h2, if_pos (by omega)]
    · rw [if_neg h2, if_neg (by omega)]⟩
theorem Mix.all {s : ByteArray} {C : Nat} {cur : Array Value} (h : Mix (L s) s.size s.size C cur) : ∀ j, j < (errL (L s)).length → cur[j]? = some (.int .u8 (at_ (errL (L s)) j)) := fun j hj => by
  have hl : (errL (L s)).length = s.size := by unfold errL; rw [List.length_map, L_length]
  have hj' : j < s.size := by omega
  rw [h.2.2 j hj']
  unfold mixV at_ errL e1
  rw [if_pos hj']
  have hj2 : j < (L s).length := by rw [L_length]; exact hj'
  simp only [List.getD_eq_getElem?_getD, List.getElem?_map, List.getElem?_eq_getElem hj2, Option.map_some, Option.getD_some]
end Pl
namespace Mm
open Pl
/-- '[]byte(s)', with the block it lies in -/
theorem wp_tobytesC {ops : Array Oper} {rest : List Oper} {o : Oper} {a : Act} {Q : Exit → Act → World → Prop} (w : World) (hgd : o.guard = none) (x : Operand) (ho : o.op = .convert 9 24 x)
    (s : ByteArray) (hx : a.eval x = .string s)
    (hK : ∀ c cur w', Mix (L s) s.size 0 c cur → w'.heap[w.heap.size]? = some (.cells cur 5 (cur.size, cur.size + 1)) → w'.heap.size = w.heap.size + 1 → Below w.heap.size w w' →
      wpList Tryd.prog ops Q rest (a.put o.dst (.slice (some ⟨w.heap.size, 0, none⟩) s.size c)) w') : wpList Tryd.prog ops Q (o :: rest) a w := by
  refine wpList_plain hgd fun K hK' => ?_
  have hrun := run_bytes_of_string (P := Tryd.prog) w 9 24 5 s Tryd.underlying9 Tryd.underlying24 Tryd.underlying5
  unfold Oper.wp
  simp [execOp, ho, hx, hrun, Result.andThen]
  refine hK' _ _ (hK _ (bytesRow s (grownCap w s.size 0 5)) _ ?_ (heap_alloc_new w.drew _) (by simp) (((Below.refl _ _).drew).alloc (by simp) _))
  refine ⟨?_, grownCap_ge _ _ _ _, fun j hj => ?_⟩
  · have h1 : s.data.size = s.size := rfl
    have h2 := grownCap_ge w s.size 0 5
    unfold bytesRow
    rw [Array.size_append, Array.size_map, Array.size_replicate, h1]
    omega
  · have hj' : j < s.data.size := hj
    rw [bytesRow_at s _ j hj']
    unfold mixV
    rw [if_neg (Nat.not_lt_zero _)]
    have h2 : j < (L s).length := by rw [L_length]; exact hj
    rw [List.getD_eq_getElem?_getD, List.getElem?_eq_getElem h2]
    rfl
theorem frozen_mark {w : World} {p i : Nat} {cs : Array Value} {T : TypeId} (h : w.heap[p]? = some (.cells cs T (cs.size, cs.size + 1))) (hi : i < cs.size) : w.frozen? ⟨p, i, none⟩ = false := by
  simp [World.frozen?, h]
  omega
/-- 'string(b)', at cells that are told -/
theorem wp_strC {ops : Array Oper} {rest : List Oper} {o : Oper} {a : Act} {Q : Exit → Act → World → Prop} (w : World) (hgd : o.guard = none) (x : Operand) (ho : o.op = .convert 24 9 x)
    (g n c : Nat) (l : List UInt8) (h : ∀ j, j < l.length → w.cell? ⟨g, j, none⟩ = some (.int .u8 (at_ l j))) (hx : a.eval x = .slice (some ⟨g, 0, none⟩) n c) (hn : l.length = n) (hK : wpList Tryd.prog ops Q rest (a.put o.dst (.string (B l))) w) : wpList Tryd.prog ops Q (o :: rest) a w := by
  subst hn
  refine wpList_plain hgd fun K hK' => ?_
  have hrun := run_convert_bytes_back w 24 9 5 ⟨g, 0, none⟩ c l Tryd.underlying24 Tryd.underlying5 Tryd.underlying9 (fun j hj => by
    have e : (⟨g, 0, none⟩ : Addr).add j = ⟨g, j, none⟩ := by unfold Addr.add; split <;> simp_all
    rw [e, h j hj]
    simp [at_, List.getD_eq_getElem?_getD, List.getElem?_eq_getElem hj])
  unfold Oper.wp
  simp [execOp, ho, hx, hrun, Result.andThen]
  exact hK' _ _ hK
end Mm

set_option maxHeartbeats 4000000 in
theorem mk_error (s : ByteArray) (w : World) (hX : Mm.MaxI w) (hs : s.size ≤ 100000000) : Calls Tryd.prog 15 #[.string s] w fun e w' => e = .returned (.agg #[.int .i64 2, .string (Pl.errT s), .int .i64 0, .slice none 0 0]) ∧ Below w.heap.size w w' := by
  obtain ⟨w1, hw1⟩ : ∃ w1, w.alloc (.cells #[.int .i64 0, .string ⟨#[]⟩, .int .i64 0, .slice none 0 0] 31) = w1 := ⟨_, rfl⟩
  obtain ⟨r, hr⟩ : ∃ r, w.heap.size = r := ⟨_, rfl⟩
  have HR1 : Hid (w1.heap[r]? = some (.cells #[.int .i64 0, .string ⟨#[]⟩, .int .i64 0, .slice none 0 0] 31 (0, 0))) := by show _ = _; rw [← hw1, ← hr]; exact heap_alloc_new w _
  have HB1 : Hid (Below w.heap.size w w1) := by rw [← hw1]; exact (Below.refl _ _).alloc (Nat.le_refl _) _
  have HX1 := Pl.hid (hX.on HB1.out)
  obtain ⟨s1, hs1⟩ : ∃ s1 : ByteArray, s1 = ⟨(Lib.replaceAll s.data.toList [13] [32]).toArray⟩ := ⟨_, rfl⟩
  have HS1 : Hid (s1.size ≤ 100000000) := by
    show _ ≤ _
    rw [hs1, Pl.replAll 13 32 (by decide)]
    show (List.map _ _).toArray.size ≤ _
    rw [List.size_toArray, List.length_map]
    exact hs
  have HE : Hid ((⟨(Lib.replaceAll s1.data.toList [10] [32]).toArray⟩ : ByteArray) = Pl.errT s) := by
    show _ = _
    rw [hs1]
    exact Pl.errT_data s
  have HC1 := Pl.hid (replaceAll_walk s 13 32 w1 HX1.out hs)
  rw [← hs1] at HC1
  have HRL : Hid (r < w1.heap.size ∧ w.heap.size = r) := ⟨(Array.getElem?_eq_some_iff.1 HR1.out).1, hr⟩
  clear hX hs hs1
  go_enter Tryd.func15, Tryd.ntmps15
  go_wp2_with (first
    | (go_at_call 51; refine HC1.out.mono ?_; rintro e w2 ⟨rfl, hb2⟩; have HB2 := Pl.hid hb2; clear hb2)
    | (go_at_call 51; refine (replaceAll_walk s1 10 32 w2 (HX1.out.on HB2.out) HS1.out).mono ?_; rintro e w3 ⟨rfl, hb3⟩; rw [HE.out]; have HB3 := Pl.hid hb3; clear hb3)
    | (refine Mm.wp_store4 _ rfl _ _ rfl r _ _ _ _ _ _ ((HB3.out.block r (by have := HB2.out.size; have := HRL.out.1; omega)).trans ((HB2.out.block r HRL.out.1).trans HR1.out)) rfl rfl rfl Mm.leaf_one ?_; intro wf hwf hsf hgf; clear hsf; have HWF := Pl.hid hwf; have HGF := Pl.hid hgf; clear hwf hgf))
  refine bodyPost_ret (Mm.res_cell rfl _ wf r _ _ _ _ _ _ rfl HWF.out) rfl ?_
  have hrl := HRL.out
  have b1 := HB1.out
  have b3 : Below w.heap.size w w3 := b1.trans ((HB2.out.trans (HB3.out.mono HB2.out.size)).mono b1.size)
  exact ⟨rfl, b3.grown HGF.out b3.size (fun k hk => by injection hk with hk; omega)⟩

set_option maxHeartbeats 8000000 in
theorem mk_rerror (s : ByteArray) (w : World) (hs : s.size ≤ 100000000) : Calls Tryd.prog 28 #[.string s] w fun e w' => e = .returned (.agg #[.int .i64 2, .string (Pl.errT s), .int .i64 0, .slice none 0 0]) ∧ Below w.heap.size w w' := by
  obtain ⟨w1, hw1⟩ : ∃ w1, w.alloc (.cells #[.int .i64 0, .string ⟨#[]⟩, .int .i64 0, .slice none 0 0] 31) = w1 := ⟨_, rfl⟩
  obtain ⟨r, hr⟩ : ∃ r, w.heap.size = r := ⟨_, rfl⟩
  obtain ⟨g, hg⟩ : ∃ g, w1.heap.size = g := ⟨_, rfl⟩
  have HR1 : Hid (w1.heap[r]? = some (.cells #[.int .i64 0, .string ⟨#[]⟩, .int .i64 0, .slice none 0 0] 31 (0, 0))) := by show _ = _; rw [← hw1, ← hr]; exact heap_alloc_new w _
  have HB1 : Hid (Below w.heap.size w w1) := by rw [← hw1]; exact (Below.refl _ _).alloc (Nat.le_refl _) _
  have HRL : Hid (r < g ∧ w.heap.size = r ∧ w1.heap.size = g) := ⟨by rw [← hg]; exact (Array.getElem?_eq_some_iff.1 HR1.out).1, hr, hg⟩
  go_enter Tryd.func28, Tryd.ntmps28
  go_wp2_with (refine Mm.wp_tobytesC w1 rfl _ (by rfl) s (by rfl) ?_; intro C cur w2 hm2 hh2 hs2 hb2; rw [hg] at hh2; have HM2 := Pl.hid hm2; have HH2 := Pl.hid hh2; have HB2 := Pl.hid hb2; clear hm2 hh2 hs2 hb2)
  have hn : s.size ≤ C := HM2.out.2.1
  have hn8 : s.size ≤ 100000000 := hs
  have HR2 : Hid (w2.heap[r]? = some (.cells #[.int .i64 0, .string ⟨#[]⟩, .int .i64 0, .slice none 0 0] 31 (0, 0))) := (HB2.out.block r (by have := HRL.out; omega)).trans HR1.out
  have HB3 : Hid (Below w.heap.size w w2) := HB1.out.trans (HB2.out.mono HB1.out.size)
  have HGL : Hid (g < w2.heap.size) := (Array.getElem?_eq_some_iff.1 HH2.out).1
  obtain ⟨n, hnn⟩ : ∃ n, n = s.size := ⟨_, rfl⟩
  rw [← hnn] at HM2 hn hn8 ⊢
  have HN := Pl.hid hnn
  clear hnn hw1 hr hg HR1 HB1 HB2 hs
  go_loopw [10] (fun iv wr => ∃ (i : Nat) (cur : Array Value), iv = .int .i64 i ∧ i ≤ n ∧ Hid (wr.heap[g]? = some (.cells cur 5 (cur.size, cur.size + 1))) ∧ Hid (Pl.Mix (Pl.L s) n i C cur) ∧ Hid (wr.heap[r]? = some (.cells #[.int .i64 0, .string ⟨#[]⟩, .int .i64 0, .slice none 0 0] 31 (0, 0))) ∧ Hid (Below w.heap.size w wr)) (fun iv _ => n - (intOf iv).toNat)
  case atStart => exact ⟨0, cur, rfl, Nat.zero_le _, HH2.out, HM2.out, HR2.out, HB3.out⟩
  case round =>
    obtain ⟨i, cu, rfl, hi, HH, HM, HR, HB⟩ := hrel
    rcases Nat.lt_or_ge i n with hlt | hge
    · obtain ⟨x, hx⟩ : ∃ x, (Pl.L s).getD i 0 = x := ⟨_, rfl⟩
      have b1 := Mm.cell_of HH.out (i := i) (v := .int .u8 ((x.toNat : Nat) : Int)) (by rw [HM.out.2.2 i hlt, Pl.mixV_here, hx])
      have HX := Pl.hid hx
      have HFZ : Hid (i < cu.size) := by have := HM.out.1; show _ < _; omega
      have f1 := Mm.frozen_mark HH.out HFZ.out
      clear hx
      cases hend : Pl.isEnd x
      · have HEN : Hid (Pl.Mix (Pl.L s) n (i + 1) C cu) := HM.out.same (by rw [HX.out]; exact hend)
        have hh : x ≠ 13 ∧ x ≠ 10 := by
          unfold Pl.isEnd at hend
          simpa using hend
        have h13 : ((x.toNat : Int) == 13) = false := beq_eq_false_iff_ne.2 (fun e => hh.1 (UInt8.toNat_inj.1 (by show x.toNat = 13; omega)))
        have h10 : ((x.toNat : Int) == 10) = false := beq_eq_false_iff_ne.2 (fun e => hh.2 (UInt8.toNat_inj.1 (by show x.toNat = 10; omega)))
        clear hh hend
        go_wp2_with fail
        exact ⟨⟨i + 1, cu, by go_num, hlt, HH.out, HEN.out, HR.out, HB.out⟩, by simp [intOf]; omega⟩
      · have HEN : Hid (Pl.Mix (Pl.L s) n (i + 1) C (cu.setIfInBounds i (.int .u8 32))) := HM.out.set hlt (by rw [HX.out]; exact hend)
        have HH7 := Mm.heap_set HH.out i (.int .u8 32)
        have HG7 := Pl.hid (Mm.grown_set wr g i (.int .u8 32))
        have hsz : (cu.setIfInBounds i (.int .u8 32)).size = cu.size := Array.size_setIfInBounds ..
        rw [← hsz] at HH7
        have HH8 := Pl.hid HH7
        clear HH7 hsz
        have hh : x = 13 ∨ x = 10 := by
          unfold Pl.isEnd at hend
          simpa using hend
        clear hend
        have HFIN : Hid (∀ w7 : World, wr.grownBy w7 (some g) → w7.heap[r]? = some (.cells #[.int .i64 0, .string ⟨#[]⟩, .int .i64 0, .slice none 0 0] 31 (0, 0)) ∧ Below w.heap.size w w7) := fun w7 hg7 =>
          ⟨(hg7.block r (Array.getElem?_eq_some_iff.1 HR.out).1 (fun e => by injection e with e; have := HRL.out.1; omega)).trans HR.out, HB.out.grown hg7 HB.out.size (fun k hk => by injection hk with hk; have := HRL.out; omega)⟩
        rcases hh with rfl | rfl
        · have h13 : (((13 : UInt8).toNat : Int) == 13) = true := by decide
          go_wp2_with fail
          exact ⟨⟨i + 1, _, by go_num, hlt, HH8.out, HEN.out, (HFIN.out _ HG7.out).1, (HFIN.out _ HG7.out).2⟩, by simp [intOf]; omega⟩
        · have h13 : (((10 : UInt8).toNat : Int) == 13) = false := by decide
          have h10 : (((10 : UInt8).toNat : Int) == 10) = true := by decide
          go_wp2_with fail
          exact ⟨⟨i + 1, _, by go_num, hlt, HH8.out, HEN.out, (HFIN.out _ HG7.out).1, (HFIN.out _ HG7.out).2⟩, by simp [intOf]; omega⟩
    · obtain rfl : i = n := by omega
      have HALL : Hid (∀ j, j < (Pl.errL (Pl.L s)).length → wr.cell? ⟨g, j, none⟩ = some (.int .u8 (Pl.at_ (Pl.errL (Pl.L s)) j))) := fun j hj => Mm.cell_of HH.out (Pl.Mix.all (C := C) (by rw [← HN.out]; exact HM.out) j hj)
      have HLE : Hid ((Pl.errL (Pl.L s)).length = i) := by show _ = _; unfold Pl.errL; rw [List.length_map, Pl.L_length]; exact HN.out.symm
      go_wp2_with (first
        | (refine Mm.wp_strC wr rfl _ (by rfl) g i C (Pl.errL (Pl.L s)) HALL.out (by rfl) HLE.out ?_)
        | (refine Mm.wp_store4 _ rfl _ _ rfl r _ _ _ _ _ _ HR.out rfl rfl rfl Mm.leaf_one ?_; intro wf hwf hsf hgf; clear hsf; have HWF := Pl.hid hwf; have HGF := Pl.hid hgf; clear hwf hgf))
      (try simp only [Exit.inBlock, Exit.then])
      refine bodyPost_ret (Mm.res_cell rfl _ wf r _ _ _ _ _ _ rfl HWF.out) rfl ?_
      have hrl := HRL.out
      exact ⟨rfl, HB.out.grown HGF.out HB.out.size (fun k hk => by injection hk with hk; omega)⟩
end Go.Proofs.YtakldjdohgmeiaaDoor

namespace Go.Proofs.YtakldjdohgmeiaaDoor
open Go.RowKit
set_option maxRecDepth 20000

namespace Pl
/-- what Error makes, as a tree -/
def errR (s : ByteArray) : RT := .mk 2 (errT s) 0 []
theorem errR_ok (s : ByteArray) (hs : s.size ≤ 1048576) :
    (errR s).ok = true ∧ (errR s).In ∧ (errR s).depth ≤ 8 ∧ (errR s).enc.length = s.size + 3 ∧ (errR s).sz ≤ 1073741824 ∧ (errR s).code = 0 ∧ (errR s).out = (errR s).enc := by
  have hok : (errR s).ok = true := by
    unfold errR
    rw [RT.ok_mk]
    simp [RT.okHead, errT_noEnd, RT.okL]
  have hd : (errR s).depth = 0 := by unfold errR; simp [RT.depth]
  have he : (errR s).enc.length = s.size + 3 := by
    unfold errR
    simp [RT.enc, RT.encH, RT.encL, crlf, L_length, errT_size]
    try omega
  obtain ⟨c1, c2⟩ := RT.co_good hok (by omega) (by omega)
  refine ⟨hok, RT.leaf_in _ _ _ (by unfold In64; omega), by omega, he, ?_, c1, c2⟩
  unfold errR
  rw [RT.sz_mk, errT_size]
  simp only [RT.szL]
  omega
end Pl

set_option maxHeartbeats 8000000 in
theorem com16_walk (W : World) (v : Value) (ws : List (List UInt8)) (s : ByteArray) (hv : Mm.RowT W v ws) (hws : ws.length + (ws.map List.length).sum ≤ 1048576) (hs : ∀ x ∈ ws, x.length ≤ 1048576) (hsz : s.size ≤ 1048576) (hT : Mm.Tab W) (hU : Mm.U8 W) (hX : Mm.MaxI W) (hE : Mm.Errs W) :
    Calls Tryd.prog 3 #[v, .string s] W fun e w' => e = .returned (.bool true) ∧ Below W.heap.size W w' := by
  have HT := Pl.hid hT
  have HU := Pl.hid hU
  have HX := Pl.hid hX
  have HE := Pl.hid hE
  have HV := Pl.hid hv
  have HWS := Pl.hid hws
  have HS := Pl.hid hs
  have HRO := Pl.hid (Pl.reqT_ok ws hws)
  have HRL := Pl.hid (Pl.reqE_le ws hws)
  have HER := Pl.hid (Pl.errR_ok s hsz)
  have HET := Pl.hid (Pl.errT_size s)
  obtain ⟨a, c, rfl⟩ : ∃ a c, v = .slice a ws.length c := by obtain ⟨a, c, h, _⟩ := hv; exact ⟨a, c, h⟩
  obtain ⟨M, hM⟩ : ∃ M, M = ws.length := ⟨_, rfl⟩
  rw [← hM] at HV ⊢
  obtain ⟨S, hS⟩ : ∃ S, S = s.size := ⟨_, rfl⟩
  rw [← hS] at hsz HER HET
  have HSS := Pl.hid hS
  clear hT hU hX hE hv hws hs hM hS
  go_enter Tryd.func3, Tryd.ntmps3
  go_wp2_with fail
  refine (wakes16_walk W W HT.out HU.out HX.out HE.out (Below.refl _ _)).mono ?_
  rintro e w1 ⟨rfl, hb1⟩
  have HB1 := Pl.hid hb1
  clear hb1
  go_wp2_with fail
  refine (requestO_walk _ ws W w1 HT.out HB1.out (HV.out.below HB1.out) HWS.out HS.out).mono ?_
  rintro e w2 ⟨v2, rfl, ho2, hb2⟩
  obtain ⟨R, hR⟩ : ∃ R, R = Pl.reqE ws := ⟨_, rfl⟩
  obtain ⟨N, hN⟩ : ∃ N, N = R.length := ⟨_, rfl⟩
  rw [← hR] at ho2
  obtain ⟨a2, q2, rfl, _⟩ := ho2.val
  rw [← hN] at ho2 ⊢
  have hN16 : N ≤ 16777216 := by rw [hN, hR]; exact HRL.out
  have HO2 := Pl.hid ho2
  have HB2 := Pl.hid (HB1.out.trans (hb2.mono HB1.out.size))
  have HRR := Pl.hid hR
  have HNN := Pl.hid hN
  clear ho2 hb2 hR hN
  go_wp2_with fail
  refine (bulksO_walk _ ws w2 (HV.out.below HB2.out) (by have := HWS.out; omega) HS.out).mono ?_
  rintro e w3 ⟨c0, c1, c2, c3, rfl, ho3, hb3⟩
  have HO3 := Pl.hid ho3
  have HB3 := Pl.hid (HB2.out.trans (hb3.mono HB2.out.size))
  have HB23 := Pl.hid hb3
  clear ho3 hb3
  go_wp2_with fail
  refine (encode_walk w3 (HT.out.on HB3.out) (Pl.reqT ws) HRO.out.2.1 HRO.out.2.2.2.2.1 c0 c1 c2 c3 HO3.out.x w3 (Below.refl _ _)).mono ?_
  rw [HRO.out.2.2.2.2.2.1, HRO.out.2.2.2.2.2.2, ← HRR.out]
  rintro e w4 ⟨v4, rfl, ho4, hb4⟩
  have HO4 := Pl.hid ho4
  have HB4 := Pl.hid (HB3.out.trans (hb4.mono HB3.out.size))
  have HO24 := Pl.hid (HO2.out.bytesR.below (HB23.out.trans (hb4.mono HB23.out.size)))
  clear ho4 hb4 HO3 HB23
  go_wp2_with fail
  refine (same16_eq _ v4 R w4 (by have := HNN.out; omega) HO24.out HO4.out.bytesR).mono ?_
  rintro e w5 ⟨rfl, hb5⟩
  have HB5 := Pl.hid (HB4.out.trans (hb5.mono HB4.out.size))
  clear hb5
  have hs8 : (S : Int) ≤ 8388608 := by omega
  have hss : (s.size : Int) = (S : Int) := by rw [HSS.out]
  go_wp2_with fail
  refine (mk_error s w5 (HX.out.on HB5.out) (by rw [← HSS.out]; omega)).mono ?_
  rintro e w6 ⟨rfl, hb6⟩
  have HB6 := Pl.hid (HB5.out.trans (hb6.mono HB5.out.size))
  clear hb6 HO4 HO24 HO2
  obtain ⟨et, het⟩ : ∃ et, et = Pl.errT s := ⟨_, rfl⟩
  have HTE : Hid (Pl.errR s = .mk 2 et 0 []) := by show _ = _; rw [het]; rfl
  rw [← het] at HET ⊢
  obtain ⟨E, hEE⟩ : ∃ E, E = (Pl.errR s).enc := ⟨_, rfl⟩
  obtain ⟨L, hL⟩ : ∃ L, L = E.length := ⟨_, rfl⟩
  have hL3 : (L : Int) = (S : Int) + 3 := by rw [hL, hEE]; have := HER.out.2.2.2.1; omega
  have HEN := Pl.hid hEE
  have HLL := Pl.hid hL
  have HD := Pl.hid (RT.dec_of_enc HER.out.1 HER.out.2.1 HER.out.2.2.1 (by rw [HER.out.2.2.2.1]; omega) [])
  rw [List.append_nil, ← HEN.out, HTE.out] at HD
  have HEC : Hid ((RT.mk 2 et 0 []).In ∧ (RT.mk 2 et 0 []).sz ≤ 1073741824 ∧ (RT.mk 2 et 0 []).code = 0 ∧ (RT.mk 2 et 0 []).out = E) := by
    have h := HER.out
    rw [HTE.out] at h
    exact ⟨h.2.1, h.2.2.2.2.1, h.2.2.2.2.2.1, by rw [h.2.2.2.2.2.2, HEN.out, HTE.out]⟩
  clear het hEE hL
  obtain ⟨p6, hp6⟩ : ∃ p, p = w6.heap.size := ⟨_, rfl⟩
  go_wp2_with (refine Mm.wp_store4 _ rfl _ _ rfl w6.heap.size _ _ _ _ _ _ (heap_alloc_new w6 _) rfl rfl rfl Mm.leaf_one ?_; intro w7 hw7 _ hg7; rw [← hp6] at hw7 ⊢; have HW7 := Pl.hid hw7; have HB7 := Pl.hid (HB6.out.trans ((Mm.newcell4 hg7).mono HB6.out.size)); have k0 := Mm.cell_of hw7 (i := 0) rfl; have k1 := Mm.cell_of hw7 (i := 1) rfl; have k2 := Mm.cell_of hw7 (i := 2) rfl; have k3 := Mm.cell_of hw7 (i := 3) rfl; clear hw7 hg7 hp6)
  refine (encode_walk w7 (HT.out.on HB7.out) (.mk 2 et 0 []) HEC.out.1 HEC.out.2.1 _ _ _ _ (Mm.leaf_x w7 2 et 0) w7 (Below.refl _ _)).mono ?_
  rw [HEC.out.2.2.1, HEC.out.2.2.2]
  rintro e w8 ⟨v8, rfl, ho8, hb8⟩
  obtain ⟨a8, q8, rfl, _⟩ := ho8.val
  rw [← HLL.out] at ho8 ⊢
  have HO8 := Pl.hid ho8
  have HB8 := Pl.hid (HB7.out.trans (hb8.mono HB7.out.size))
  have HW8 : Hid (w8.heap[p6]? = some (.cells #[.int .i64 2, .string et, .int .i64 0, .slice none 0 0] 31 (0, 0))) := (hb8.block p6 (Array.getElem?_eq_some_iff.1 HW7.out).1).trans HW7.out
  clear ho8 hb8 k0 k1 k2 k3
  go_wp2_with fail
  refine (decode_walk w8 (HU.out.on HB8.out) (HX.out.on HB8.out) (HE.out.on HB8.out) _ E HO8.out.bs (by have := HLL.out; omega)).mono ?_
  rw [HD.out.1, HD.out.2.1, HD.out.2.2]
  rintro e w9 ⟨e0, e1, e2, e3, rfl, ho9, hb9⟩
  have HO9 := Pl.hid ho9
  have HB9 := Pl.hid (HB8.out.trans (hb9.mono HB8.out.size))
  have HW9 : Hid (w9.heap[p6]? = some (.cells #[.int .i64 2, .string et, .int .i64 0, .slice none 0 0] 31 (0, 0))) := (hb9.block p6 (Array.getElem?_eq_some_iff.1 HW8.out).1).trans HW8.out
  clear ho9 hb9
  obtain ⟨p9, hp9⟩ : ∃ p, p = w9.heap.size := ⟨_, rfl⟩
  have het : (et.size : Int) = (S : Int) := by rw [HET.out, HSS.out]
  go_wp2_with (refine Mm.wp_store4 _ rfl _ _ rfl w9.heap.size _ _ _ _ _ _ (heap_alloc_new w9 _) rfl rfl rfl HO9.out.one ?_; intro wa hwa _ hga; rw [← hp9] at hwa ⊢; have HBA := Pl.hid (Mm.newcell4 hga); have q0 := Mm.cell_of hwa (i := 0) rfl; have q1 := Mm.cell_of hwa (i := 1) rfl; have q2 := Mm.cell_of hwa (i := 2) rfl; have q3 := Mm.cell_of hwa (i := 3) rfl; have HWA : Hid (wa.heap[p6]? = some (.cells #[.int .i64 2, .string et, .int .i64 0, .slice none 0 0] 31 (0, 0))) := (HBA.out.block p6 (Array.getElem?_eq_some_iff.1 HW9.out).1).trans HW9.out; have k0 := Mm.cell_of HWA.out (i := 0) rfl; have k1 := Mm.cell_of HWA.out (i := 1) rfl; have k2 := Mm.cell_of HWA.out (i := 2) rfl; have k3 := Mm.cell_of HWA.out (i := 3) rfl; clear hwa hga hp9)

  refine (alike_tree w9 (.mk 2 et 0 []) HEC.out.2.1 _ _ _ _ _ _ _ _ HO9.out.x (Mm.leaf_x w9 2 et 0) wa HBA.out).mono ?_
  rintro e wb ⟨rfl, hbb⟩
  go_wp2_with fail
  go_ret
  exact ⟨rfl, HB9.out.trans ((HBA.out.trans (hbb.mono HBA.out.size)).mono HB9.out.size)⟩
end Go.Proofs.YtakldjdohgmeiaaDoor

namespace Go.Proofs.YtakldjdohgmeiaaDoor.Fr
open Go.ChangeShapes Go.WideShapes Go.ChangeAt Go.RowKit

section
variable {H : Type} {enc : TypeId × Value → H} {P : Program}

theorem trodAll_below (hl : laidOutB P = true) {W W' : World} (hb : Below W.heap.size W W') :
    ∀ {ts : List TypeId} {vs : List Value} {ds : List (DataW H)} {ps : List MemPlace}, (∀ t ∈ ts, P.readableRec t = true ∧ t < P.types.size) →
      DataW.TrodAll enc P W 0 (fun _ => true) true ts vs ds ps → DataW.TrodAll enc P W' 0 (fun b => decide (b < W.heap.size)) true ts vs ds ps
  | [], [], [], _, _, h => h
  | t :: ts, v :: vs, d :: ds, ps, hr, h => by
    obtain ⟨p, q, h1, h2, rfl⟩ := h
    have hlt : ∀ x ∈ p, x.block < W.heap.size := by
      obtain ⟨m, hm⟩ := h1
      exact DataW.trod_lt m _ _ _ hm
    exact ⟨p, q, Below.trod hl (hr t (by simp)).1 (hr t (by simp)).2 h1 hb hlt, trodAll_below hl hb (fun t' ht' => hr t' (by simp [ht'])) h2, rfl⟩
  | [], _ :: _, _, _, _, h => h.elim
  | [], [], _ :: _, _, _, h => h.elim
  | _ :: _, [], _, _, _, h => h.elim
  | _ :: _, _ :: _, [], _, _, h => h.elim

theorem trodAll_length {W : World} {base : Nat} {sp : Nat → Bool} {held : Bool} :
    ∀ {ts : List TypeId} {vs : List Value} {ds : List (DataW H)} {ps : List MemPlace}, DataW.TrodAll enc P W base sp held ts vs ds ps → ds.length = ts.length
  | [], [], [], _, _ => rfl
  | t :: ts, v :: vs, d :: ds, ps, h => by
    obtain ⟨p, q, _, h2, _⟩ := h
    simp [trodAll_length h2]
  | [], _ :: _, _, _, h => h.elim
  | [], [], _ :: _, _, h => h.elim
  | _ :: _, [], _, _, h => h.elim
  | _ :: _, _ :: _, [], _, h => h.elim

theorem post_true {f : Func} {s : ChangeSpec} {W W' : World} {args : Array Value} {ds gs : List (DataW H)} {before : List MemPlace} {tb : TypeId} (hl : laidOutB P = true)
    (hts : ∀ t ∈ f.params.toList, P.readableRec t = true ∧ t < P.types.size) (hvars : s.vars = []) (hW : DataW.Whole enc P f.params.toList s.vars false W args.toList ds gs before)
    (hb : Below W.heap.size W W') (hres : f.resultTypes = #[tb]) (hub : P.underlying tb = some .bool) (hfn : s.fn H (ds ++ gs) = { results := [.lit (.bool true)], args := ds }) :
    s.post enc P f false true false false W args (.bool true) W' := by
  have hW' := hW
  obtain ⟨p, q, h1, h2, rfl, hz, ha⟩ := hW
  rw [hvars] at h2
  obtain ⟨rfl, rfl⟩ := trodVars_none h2
  refine ⟨ds, [], p ++ [], [], p, [], hW', ?_, ?_, ?_, hb.frame _, fun h => by cases h⟩
  · rw [hfn, hres]
    exact trodAll_mk1 (shut_bool hub _)
  · rw [hfn]
    exact trodAll_below hl hb hts h1
  · rw [hfn, hvars]
    rfl
end

theorem str_size {a : ByteArray} (h : a.data.toList.length ≤ reachBytes) : a.size ≤ 140737488351232 := by
  rw [Array.length_toList] at h
  exact h

theorem lifted {H : Type} {enc : TypeId × Value → H} {C : Checked} {os : Os} {f : FuncId} {fn : Func} {s : OpenSpec} {F : Stop.Interp} {laid : List (String × DataW Unit)} {tb : TypeId}
    (own : ownKnob C.prog.godebug = none) (started : os.Started) (noInit : C.prog.inits.idxOf? f = none) (hfn : C.prog.funcs[f]? = some fn)
    (witness : ∃ (w : World) (tape : Tape) (i : Input), w.os = os ∧ (w.forCall tape i).Shaped C.prog ∧ i.vars = [] ∧ Input.okWide C.prog (w.forCall tape i) .any w.heap.size f i ∧
      s.preRow enc C.prog fn [] false laid (w.forCall tape i).memory i.args ∧ ({} : Assume).holds C.prog (lone (Frame.enter C.prog f i.args .normal) [] (w.forCall tape i)))
    (hl : laidOutB C.prog = true) (hts : (fn.params.toList.all fun t => C.prog.readableRec t && decide (t < C.prog.types.size)) = true) (hvars : s.vars = [])
    (hres : fn.resultTypes = #[tb]) (hub : C.prog.underlying tb = some .bool)
    (hspec : ∀ ds : List (DataW H), ds.length = fn.params.toList.length → (s.at F).fn H ds = { results := [.lit (.bool true)], args := ds })
    (walk : ∀ (W : World) (base : Nat) (args : Array Value) (ds : List (DataW H)) (before : List MemPlace),
      (∀ (j : Nat) t v, fn.params[j]? = some t → args[j]? = some v → Value.okWide C.prog W .any base t v) →
      DataW.TrodAll enc C.prog W 0 (fun _ => true) true fn.params.toList args.toList ds before → W.noneFrozen before →
      (∀ k, s.cond = some k → k H ds = true) →
      (DataW.weightsEach C.prog fn.params.toList ds).all (· ≤ reachBytes) = true →
      laidMetH C.prog laid W → W.ShapedOpen C.prog →
      Calls C.prog f args W fun e W' => e = .returned (.bool true) ∧ Below W.heap.size W W') :
    ReturnsInHanded {} C os f .any (s.preRow enc C.prog fn [] false laid) ((s.at F).post enc C.prog fn false true false false) := by
  have hts' : ∀ t ∈ fn.params.toList, C.prog.readableRec t = true ∧ t < C.prog.types.size := by
    intro t ht
    have := List.all_eq_true.1 hts t ht
    simpa using this
  refine returnsInHanded_of_row own started noInit hfn witness ?_
  intro W base args ds gs before hval hW _ hk hsz hL hsh _
  have hW0 := hW
  obtain ⟨p, q, h1, h2, rfl, hz, ha⟩ := hW
  rw [hvars] at h2
  obtain ⟨rfl, rfl⟩ := trodVars_none h2
  have hvt : s.bare.plain.varTypes C.prog = [] := by
    show s.vars.filterMap _ = []
    rw [hvars]
    rfl
  rw [hvt] at hsz
  simp only [List.append_nil] at hk hsz hz
  refine (walk W base args ds p hval h1 hz hk hsz hL hsh).mono fun e W' ⟨he, hb⟩ => ?_
  subst he
  refine ⟨_, rfl, ?_⟩
  exact post_true hl hts' hvars hW0 hb hres hub (by rw [List.append_nil]; exact hspec ds (trodAll_length h1))
end Go.Proofs.YtakldjdohgmeiaaDoor.Fr

namespace Go.Proofs.YtakldjdohgmeiaaDoor.Fr
open Go.ChangeShapes Go.WideShapes Go.ChangeAt Go.RowKit
set_option maxRecDepth 100000

theorem witness_shaped {H : Type} {enc : TypeId × Value → H} {C : Checked} {os : Os} {f : FuncId} {fn : Func} {s : OpenSpec} {conds : List PathCond} {apart : Bool} {laid : List (String × DataW Unit)} (w0 : World) (args : Array Value) (hos : w0.os = os)
    (hsh : (w0.forCall (fun _ _ => 0) ⟨#[], args, []⟩).Shaped C.prog)
    (hok : Input.okWideB C.prog (w0.forCall (fun _ _ => 0) ⟨#[], args, []⟩) f ⟨#[], args, []⟩ = true)
    (hrow : s.preRow enc C.prog fn conds apart laid (w0.forCall (fun _ _ => 0) ⟨#[], args, []⟩).memory args) :
    ∃ (w : World) (tape : Tape) (i : Input), w.os = os ∧ (w.forCall tape i).Shaped C.prog ∧ i.vars = [] ∧ Input.okWide C.prog (w.forCall tape i) .any w.heap.size f i ∧
      s.preRow enc C.prog fn conds apart laid (w.forCall tape i).memory i.args ∧ ({} : Assume).holds C.prog (lone (Frame.enter C.prog f i.args .normal) [] (w.forCall tape i)) :=
  ⟨w0, fun _ _ => 0, ⟨#[], args, []⟩, hos, hsh, (Input.okWide_of_okWideB (base := 0) hok).1, (Input.okWide_of_okWideB hok).2, hrow, by
    simp only [Assume.holds]
    exact ⟨by simp, by simp, fun _ => Modest.zero, by simp, by simp⟩⟩

theorem gPow : Tryd.prog.globalNamed "internal/strconv.uint64pow10" = some 9 := by kernel_rfl
theorem gPowType : (Tryd.prog.globals[9]?).map (·.type) = some 166 := by kernel_rfl
theorem cellsPow : Tryd.prog.cellsOf 166 = 20 := by kernel_rfl
theorem cellsU64 : Tryd.prog.cellsOf 141 = 1 := by kernel_rfl
/-- the table of powers, third on every list -/
theorem tab {W : World} {x y : String × DataW Unit} {rest : List (String × DataW Unit)} (h : laidMet Tryd.prog (x :: y :: ("internal/strconv.uint64pow10", Rows.laid_internal_strconv_uint64pow10) :: rest) W) : Mm.Tab W :=
  Mm.tab_of (Lib.tabIs_of_head (rest := rest) gPow gPowType Tryd.underlying166 Tryd.underlying141 cellsU64 cellsPow h.tail.tail)

theorem gRange : Tryd.prog.globalNamed "strconv.ErrRange" = some 11 := by kernel_rfl
theorem gRangeType : (Tryd.prog.globals[11]?).map (·.type) = some 53 := by kernel_rfl
theorem gSyntax : Tryd.prog.globalNamed "strconv.ErrSyntax" = some 10 := by kernel_rfl
theorem gSyntaxType : (Tryd.prog.globals[10]?).map (·.type) = some 53 := by kernel_rfl
theorem starErr : "*" ++ "errors.errorString" = "*errors.errorString" := by decide
theorem rowErr (u : TypeId) (h : Tryd.prog.typeName? 3 u = some "*errors.errorString") : u = 177 :=
  typeName_ptr_named (nm := "errors.errorString") (by rw [starErr]; kernel_rfl) (by kernel_rfl) (by decide) u (by rw [starErr]; exact h)
theorem cellsErr : Tryd.prog.cellsOf 179 = 1 := by kernel_rfl
theorem cellsStr : Tryd.prog.cellsOf 9 = 1 := by kernel_rfl
/-- the two errors of the library -/
theorem errs {W : World} {r r' : List (String × DataW Unit)} (h1 : laidMet Tryd.prog (("strconv.ErrRange", Rows.laid_strconv_ErrRange) :: r) W) (h2 : laidMet Tryd.prog (("strconv.ErrSyntax", Rows.laid_strconv_ErrSyntax) :: r') W) : Mm.Errs W := by
  obtain ⟨a1, s1, v1, _⟩ := laid_sentinel h1 gRange gRangeType Tryd.underlying53 rowErr Tryd.underlying177 Tryd.underlying179 rfl rfl Tryd.underlying9 cellsErr cellsStr
  obtain ⟨a2, s2, v2, _⟩ := laid_sentinel h2 gSyntax gSyntaxType Tryd.underlying53 rowErr Tryd.underlying177 Tryd.underlying179 rfl rfl Tryd.underlying9 cellsErr cellsStr
  exact Mm.errs_of ⟨_, _, v2⟩ ⟨_, _, v1⟩
end Go.Proofs.YtakldjdohgmeiaaDoor.Fr
