/- reply's size of a reply that may be. Conditions stand in each law. reply's looked of any reply. Conditions stand in each law. What is read from the left of bytes: a line, a reply; there and back; plain Lean. Conditions stand in each law. What is read from the left of bytes: what was read is right, and is written as the bytes that were read; broken off it is too short; plain Lean. Conditions stand in each law. Conditions stand in each law. -/
import Derived.Test.YtakldjdohgmeiaaDoorBuReplyMakes10
namespace Go.Proofs.YtakldjdohgmeiaaDoor
open Go.RowKit
set_option maxRecDepth 20000

namespace RT
open Pl
theorem enc_le (t : RT) : t.In → t.sz ≤ 1073741824 → (enc t).length ≤ 2 * t.sz := by
  induction t using RT.ind with
  | h k s n l ih =>
    intro hin hsz
    rw [enc_mk, List.length_append, sz_mk]
    rw [sz_mk] at hsz
    have h1 := encH_le k s n l.length (by omega) hin.num (by have := szL_len l; omega)
    have h2 : ∀ l' : List RT, (∀ t ∈ l', t ∈ l) → szL l' ≤ szL l → (encL l').length ≤ 2 * szL l' := by
      intro l'
      induction l' with
      | nil => intro _ _; simp [encL]
      | cons t ts ih2 =>
        intro hm hs
        simp only [szL] at hs
        have a := ih t (hm t (by simp)) (hin.list t (hm t (by simp))) (by omega)
        have b := ih2 (fun t' ht' => hm t' (by simp [ht'])) (by omega)
        simp only [encL, szL, List.length_append]
        omega
    have h3 := h2 l (fun _ h => h) (Nat.le_refl _)
    omega
theorem encL_le2 (l : List RT) (hin : ∀ t ∈ l, In t) (hsz : szL l ≤ 1073741824) : (encL l).length ≤ 2 * szL l := by
  have := enc_le (.mk 7 ⟨#[]⟩ 0 l) (.mk _ _ _ _ (by unfold In64; omega) hin)
  induction l with
  | nil => simp [encL]
  | cons t ts ih =>
    simp only [szL] at hsz
    have a := enc_le t (hin t (by simp)) (by omega)
    have b := ih (fun t' ht' => hin t' (by simp [ht'])) (by omega) (enc_le _ (.mk _ _ _ _ (by unfold In64; omega) (fun t' ht' => hin t' (by simp [ht']))))
    simp only [encL, szL, List.length_append]
    omega
end RT

--BEGIN
set_option maxHeartbeats 8000000 in
theorem size_walk (W : World) (hT : Mm.Tab W) : ∀ (t : RT), t.ok = true → t.In → t.sz ≤ 1073741824 → ∀ (c0 c1 c2 c3 : Value), Mm.RepX W t [c0, c1, c2, c3] → ∀ (w : World), Below W.heap.size W w →
    Calls Tryd.prog 50 #[.agg #[c0, c1, c2, c3]] w fun e w' => e = .returned (.int .i64 (t.enc.length : Nat)) ∧ Below w.heap.size w w' := by
  intro t
  induction t using RT.ind with
  | h k s nn ts ih =>
  intro hok hin hsz c0 c1 c2 c3 hX w hW
  obtain ⟨la, lc, hcs, hel⟩ := hX.open
  simp only [List.cons.injEq, and_true] at hcs
  obtain ⟨rfl, rfl, rfl, rfl⟩ := hcs
  rw [RT.ok_mk, Bool.and_eq_true] at hok
  rw [RT.enc_mk]
  rw [RT.sz_mk] at hsz
  have nilc : ts.length = 0 → RT.encL ts = [] := fun h => by rw [List.eq_nil_of_length_eq_zero h]; simp [RT.encL]
  obtain ⟨p, hp⟩ : ∃ p, p = w.heap.size := ⟨_, rfl⟩
  obtain ⟨w0, hw0⟩ : ∃ w0, w0 = w.alloc (.cells #[.int .i64 k, .string s, .int .i64 nn, .slice la ts.length lc] 31) := ⟨_, rfl⟩
  have HP0 : Hid (w0.heap[p]? = some (.cells #[.int .i64 k, .string s, .int .i64 nn, .slice la ts.length lc] 31 (0, 0))) := by
    show _ = _
    rw [hw0, hp]
    exact heap_alloc_new w _
  have HB0 : Hid (Below w.heap.size w w0) := by rw [hw0]; exact (Below.refl _ _).alloc (Nat.le_refl _) _
  have HS0 : Hid (w0.heap.size = w.heap.size + 1) := by show _ = _; rw [hw0]; simp
  have HK : Hid (∀ V, Below w0.heap.size w0 V → V.cell? ⟨p, 0, none⟩ = some (.int .i64 k) ∧ V.cell? ⟨p, 1, none⟩ = some (.string s) ∧ V.cell? ⟨p, 2, none⟩ = some (.int .i64 nn) ∧ V.cell? ⟨p, 3, none⟩ = some (.slice la ts.length lc)) := fun V hV => by
    have h := (hV.block p (by rw [HS0.out, hp]; omega)).trans HP0.out
    exact ⟨Mm.cellOf h rfl, Mm.cellOf h rfl, Mm.cellOf h rfl, Mm.cellOf h rfl⟩
  have HTW := Pl.hid (fun (n : Int) (hn : Pl.In64 n) w' (hw' : Below w0.heap.size w0 w') => text_walk n w' hn (hT.on (hW.trans ((HB0.out.trans (hw'.mono HB0.out.size)).mono hW.size))))
  have HW0eq := Pl.hid hw0
  have HPeq := Pl.hid hp
  obtain ⟨k0, k1, k2, k3⟩ := HK.out w0 (Below.refl _ _)
  have HIN := hin.num
  rcases RT.okHead_cases hok.1 with ⟨rfl, h2, rfl, h4⟩ | ⟨rfl, h2, rfl, h4⟩ | ⟨rfl, h2, h4⟩ | ⟨rfl, rfl, h4⟩ | ⟨rfl, h2, rfl, h4⟩ | ⟨rfl, h2, rfl, h4⟩ | ⟨rfl, rfl, rfl⟩
  · rw [nilc h4]
    have HR : Hid ((RT.encH 1 s 0 ts.length ++ []).length = 3 + s.size) := by show _ = _; simp [RT.encH, Pl.crlf, Pl.L_length]; omega
    have hss : s.size ≤ 1073741824 := by omega
    clear nilc hel hok hin hsz hX h2 h4 ih HIN hw0 hp
    go_enter Tryd.func50, Tryd.ntmps50
    go_wp2_with fail
    go_ret
    rw [HR.out]
    refine ⟨Pl.ret1i (by omega), ?_⟩
    rw [← HW0eq.out]
    exact HB0.out
  · rw [nilc h4]
    have HR : Hid ((RT.encH 2 s 0 ts.length ++ []).length = 3 + s.size) := by show _ = _; simp [RT.encH, Pl.crlf, Pl.L_length]; omega
    have hss : s.size ≤ 1073741824 := by omega
    clear nilc hel hok hin hsz hX h2 h4 ih HIN hw0 hp
    go_enter Tryd.func50, Tryd.ntmps50
    go_wp2_with fail
    go_ret
    rw [HR.out]
    refine ⟨Pl.ret1i (by omega), ?_⟩
    rw [← HW0eq.out]
    exact HB0.out
  · rw [nilc h4]
    obtain ⟨TX, hTX⟩ : ∃ TX, TX = Pl.B (Lib.itoa nn) := ⟨_, rfl⟩
    have hTs : TX.size ≤ 21 := by rw [hTX, Pl.B_size]; exact Pl.itoa_le _ HIN
    have HR : Hid ((RT.encH 3 s nn ts.length ++ []).length = 3 + TX.size) := by show _ = _; rw [hTX, Pl.B_size]; simp [RT.encH, Pl.crlf]; omega
    have HTT := Pl.hid (HTW.out nn HIN w0 (Below.refl _ _))
    rw [← hTX] at HTT
    clear nilc hel hok hin hsz hX h2 h4 ih HIN hw0 hp hTX
    go_enter Tryd.func50, Tryd.ntmps50
    go_wp2_with fail
    rw [← HW0eq.out]
    refine HTT.out.mono ?_
    rintro e w2 ⟨rfl, hb2⟩
    have HB2 := Pl.hid hb2
    clear hb2
    go_wp2_with fail
    go_ret
    rw [HR.out]
    exact ⟨Pl.ret1i (by omega), HB0.out.trans (HB2.out.mono HB0.out.size)⟩
  · rw [nilc h4]
    obtain ⟨TX, hTX⟩ : ∃ TX, TX = Pl.B (Lib.itoa (s.size : Int)) := ⟨_, rfl⟩
    have hsI : Pl.In64 (s.size : Int) := by unfold Pl.In64; omega
    have hTs : TX.size ≤ 21 := by rw [hTX, Pl.B_size]; exact Pl.itoa_le _ hsI
    have HR : Hid ((RT.encH 4 s 0 ts.length ++ []).length = 5 + TX.size + s.size) := by
      show _ = _
      rw [hTX, Pl.B_size, Pl.itoa_pos (by omega)]
      simp [RT.encH, Pl.bulkE, Pl.crlf, Pl.L_length]
      omega
    have HTT := Pl.hid (HTW.out (s.size : Int) hsI w0 (Below.refl _ _))
    rw [← hTX] at HTT
    have hss : s.size ≤ 1073741824 := by omega
    clear nilc hel hok hin hsz hX h4 ih HIN hw0 hp hTX hsI
    go_enter Tryd.func50, Tryd.ntmps50
    go_wp2_with fail
    rw [← HW0eq.out, ← HPeq.out]
    refine HTT.out.mono ?_
    rintro e w2 ⟨rfl, hb2⟩
    have HB2 := Pl.hid hb2
    clear hb2 k0 k1 k2 k3
    obtain ⟨k0, k1, k2, k3⟩ := HK.out w2 HB2.out
    go_wp2_with fail
    go_ret
    rw [HR.out]
    exact ⟨Pl.ret1i (by omega), HB0.out.trans (HB2.out.mono HB0.out.size)⟩
  · rw [nilc h4]
    have HR : Hid ((RT.encH 5 s 0 ts.length ++ []).length = 5) := by show _ = _; simp [RT.encH]
    clear nilc hel hok hin hsz hX h2 h4 ih HIN hw0 hp
    go_enter Tryd.func50, Tryd.ntmps50
    go_wp2_with fail
    go_ret
    rw [HR.out]
    refine ⟨rfl, ?_⟩
    rw [← HW0eq.out]
    exact HB0.out
  · rw [nilc h4]
    have HR : Hid ((RT.encH 7 s 0 ts.length ++ []).length = 5) := by show _ = _; simp [RT.encH]
    clear nilc hel hok hin hsz hX h2 h4 ih HIN hw0 hp
    go_enter Tryd.func50, Tryd.ntmps50
    go_wp2_with fail
    go_ret
    rw [HR.out]
    refine ⟨rfl, ?_⟩
    rw [← HW0eq.out]
    exact HB0.out
  · obtain ⟨n, hnn⟩ : ∃ n, n = ts.length := ⟨_, rfl⟩
    have hn' : n ≤ 1099511627776 := by have := RT.szL_len ts; omega
    have HIN' := Pl.hid hin.list
    have hEL := RT.encL_le2 ts hin.list (by omega)
    obtain ⟨TX, hTX⟩ : ∃ TX, TX = Pl.B (Lib.itoa (n : Int)) := ⟨_, rfl⟩
    have hnI : Pl.In64 (n : Int) := by unfold Pl.In64; omega
    have hTs : TX.size ≤ 21 := by rw [hTX, Pl.B_size]; exact Pl.itoa_le _ hnI
    have HR : Hid ((RT.encH 6 ⟨#[]⟩ 0 ts.length ++ RT.encL ts).length = 3 + TX.size + (RT.encL ts).length) := by
      show _ = _
      rw [hTX, Pl.B_size, Pl.itoa_pos (by omega), ← hnn]
      simp [RT.encH, Pl.crlf]
      omega
    have HTT := Pl.hid (HTW.out (n : Int) hnI w0 (Below.refl _ _))
    rw [← hTX] at HTT
    have hEL' : (RT.encL ts).length ≤ 2147483648 := by omega
    have HOK := Pl.hid ((RT.okL_iff ts).1 hok.2)
    have IH := Pl.hid ih
    have HSZ : Hid (∀ t ∈ ts, t.sz ≤ 1073741824) := fun t ht => by have := RT.szL_mem ht; omega
    have HEL := Pl.hid hel
    have HNN := Pl.hid hnn
    have HW := Pl.hid hW
    rw [← hnn] at HK HW0eq k3 ⊢
    clear nilc hel hok hin hsz hX ih HIN hw0 hp hTX hnI hEL hW hnn
    go_enter Tryd.func50, Tryd.ntmps50
    go_wp2_with fail
    rw [← HW0eq.out, ← HPeq.out]
    refine HTT.out.mono ?_
    rintro e w2 ⟨rfl, hb2⟩
    have HB2 := Pl.hid hb2
    clear hb2 k0 k1 k2 k3
    obtain ⟨k0, k1, k2, k3⟩ := HK.out w2 HB2.out
    go_wp2_with fail
    clear k0 k1 k2 k3
    go_loopw [46, 3] (fun iv nv wr => ∃ (i : Nat) (m : Nat), iv = .int .i64 i ∧ nv = .int .i64 m ∧ i ≤ n ∧ m ≤ 2147483700 ∧ Hid (m = 3 + TX.size + (RT.encL (ts.take i)).length) ∧ Hid (Below w0.heap.size w0 wr)) (fun iv _ _ => n - (intOf iv).toNat)
    case atStart => exact ⟨0, 3 + TX.size, rfl, by go_num, Nat.zero_le _, by omega, by show _ = _; rw [List.take_zero, show RT.encL [] = [] by simp [RT.encL]]; rfl, HB2.out⟩
    case round =>
      obtain ⟨i, m, rfl, rfl, hi, hm, HM, HB⟩ := hrel
      rcases Nat.lt_or_ge i n with hlt | hge
      · rcases HEL.out with h0 | ⟨blk, rfl, hbl, hel⟩
        · have := HNN.out; omega
        have hlt' : i < ts.length := by rw [← HNN.out]; exact hlt
        obtain ⟨f0, f1, f2, f3, g0, g1, g2, g3, hrep⟩ := hel i hlt'
        have HWr : Hid (Below W.heap.size W wr) := HW.out.trans ((HB0.out.trans (HB.out.mono HB0.out.size)).mono HW.out.size)
        have e0 := (HWr.out.cell (p := ⟨blk, i * 4, none⟩) hbl).trans g0
        have e1 := (HWr.out.cell (p := ⟨blk, i * 4 + 1, none⟩) hbl).trans g1
        have e2 := (HWr.out.cell (p := ⟨blk, i * 4 + 2, none⟩) hbl).trans g2
        have e3 := (HWr.out.cell (p := ⟨blk, i * 4 + 3, none⟩) hbl).trans g3
        have HREP := Pl.hid hrep
        clear g0 g1 g2 g3 hrep hel
        have HSZW : Hid (w0.heap.size ≤ wr.heap.size) := HB.out.size
        go_wp2_with (refine Mm.wp_store4 _ rfl _ _ rfl wr.heap.size _ _ _ _ _ _ (heap_alloc_new wr _) rfl rfl rfl HREP.out.one ?_; intro w4 hw4 hs4 hg4; have HW4 := Pl.hid hw4; have HG4 := Pl.hid hg4; have HS4 := Pl.hid hs4; clear hw4 hs4 hg4; have q0 := Mm.cellOf (i := 0) (v := f0) HW4.out rfl; have q1 := Mm.cellOf (i := 1) (v := f1) HW4.out rfl; have q2 := Mm.cellOf (i := 2) (v := f2) HW4.out rfl; have q3 := Mm.cellOf (i := 3) (v := f3) HW4.out rfl; clear e0 e1 e2 e3)
        have HB4 : Hid (Below w0.heap.size w0 w4) := by
          refine (HB.out.alloc HB.out.size (.cells #[.int .i64 0, .string ⟨#[]⟩, .int .i64 0, .slice none 0 0] 31)).grown HG4.out (by have := HSZW.out; simp; omega) (fun k hk => by injection hk with hk; have := HSZW.out; omega)
        have HLEN4 : Hid ((RT.encL (ts.take i)).length + (ts[i]'hlt').enc.length ≤ (RT.encL ts).length) := by
          have h1 := RT.encL_le ts (i + 1)
          rw [RT.encL_take ts i hlt', List.length_append] at h1
          exact h1
        obtain ⟨E, hE⟩ : ∃ E, E = (ts[i]'hlt').enc.length := ⟨_, rfl⟩
        have HI := Pl.hid (IH.out _ (List.getElem_mem hlt') (HOK.out _ (List.getElem_mem hlt')) (HIN'.out _ (List.getElem_mem hlt')) (HSZ.out _ (List.getElem_mem hlt')) f0 f1 f2 f3 HREP.out w4 (HW.out.trans ((HB0.out.trans (HB4.out.mono HB0.out.size)).mono HW.out.size)))
        rw [← hE] at HI HLEN4
        have hmE : m + E ≤ 2147483700 := by have := HM.out; have := HLEN4.out; omega
        have HE := Pl.hid hE
        clear hE
        refine HI.out.mono ?_
        rintro e w5 ⟨rfl, hb5⟩
        have HB5 := Pl.hid (HB4.out.trans (hb5.mono HB4.out.size))
        clear hb5 q0 q1 q2 q3
        go_wp2_with fail
        go_roundw
        case rel =>
          refine ⟨i + 1, m + E, by go_num, by go_num, by omega, hmE, ?_, HB5⟩
          show _ = _
          rw [RT.encL_take ts i hlt', List.length_append, ← HE.out, HM.out]
          omega
        case measure => simp [intOf]; omega
      · obtain rfl : i = n := by omega
        go_wp2_with fail
        go_ret
        have h := HM.out
        rw [HNN.out, List.take_length] at h
        have hr := HR.out
        rw [← HNN.out] at hr
        rw [hr]
        exact ⟨Pl.ret1i (by omega), HB0.out.trans (HB.out.mono HB0.out.size)⟩
--END
end Go.Proofs.YtakldjdohgmeiaaDoor

namespace Go.Proofs.YtakldjdohgmeiaaDoor
open Go.RowKit
set_option maxRecDepth 20000

namespace RT
open Pl
def lookD (t : RT) : Int := if t.ok then (t.depth : Int) else 0
theorem lookD_ok {t : RT} (h : t.ok = true) : lookD t = t.depth := if_pos h
theorem lookD_not {t : RT} (h : t.ok = false) : lookD t = 0 := if_neg (by rw [h]; exact Bool.false_ne_true)
theorem depth_le (t : RT) : t.depth ≤ t.sz := by
  induction t using RT.ind with
  | h k s n l ih =>
    rw [depth_mk, sz_mk]
    have h2 : ∀ l' : List RT, (∀ t ∈ l', t ∈ l) → depthL l' ≤ szL l' := by
      intro l'
      induction l' with
      | nil => intro _; simp [depthL]
      | cons t ts ih2 =>
        intro hm
        have a := ih t (hm t (by simp))
        have b := ih2 (fun t' ht' => hm t' (by simp [ht']))
        simp only [depthL, szL]
        omega
    have h3 := h2 l (fun _ h => h)
    split <;> omega
theorem depthL_le (l : List RT) : depthL l ≤ szL l := by
  induction l with
  | nil => simp [depthL]
  | cons t ts ih => have := depth_le t; simp only [depthL, szL]; omega
theorem depthL_append : ∀ (a b : List RT), depthL (a ++ b) = max (depthL a) (depthL b)
  | [], b => by simp [depthL]
  | x :: a, b => by simp [depthL, depthL_append a b, Nat.max_assoc]
theorem take_snoc (l : List RT) (i : Nat) (h : i < l.length) : l.take (i + 1) = l.take i ++ [l[i]'h] := by rw [List.take_add_one, List.getElem?_eq_getElem h]; rfl
theorem depthL_take (l : List RT) (i : Nat) (h : i < l.length) : depthL (l.take (i + 1)) = max (depthL (l.take i)) (l[i]'h).depth := by
  rw [take_snoc l i h, depthL_append]
  simp [depthL]
theorem okL_take (l : List RT) (i : Nat) (h : i < l.length) : okL (l.take (i + 1)) = (okL (l.take i) && (l[i]'h).ok) := by
  rw [take_snoc l i h, okL_all, okL_all, List.all_append]
  simp
theorem szL_take_le (l : List RT) (i : Nat) : szL (l.take i) ≤ szL l := by
  conv => rhs; rw [← List.take_append_drop i l]
  rw [szL_append]
  omega
theorem okHead_false (k : Int) (s : ByteArray) (n : Int) (ln : Nat) (h : k < 1 ∨ 7 < k) : okHead k s n ln = false := by
  have a1 : (k == 1) = false := beq_eq_false_iff_ne.2 (by omega)
  have a2 : (k == 2) = false := beq_eq_false_iff_ne.2 (by omega)
  have a3 : (k == 3) = false := beq_eq_false_iff_ne.2 (by omega)
  have a4 : (k == 4) = false := beq_eq_false_iff_ne.2 (by omega)
  have a5 : (k == 5) = false := beq_eq_false_iff_ne.2 (by omega)
  have a6 : (k == 6) = false := beq_eq_false_iff_ne.2 (by omega)
  have a7 : (k == 7) = false := beq_eq_false_iff_ne.2 (by omega)
  unfold okHead
  rw [a1, a2, a3, a4, a5, a6, a7]
  rfl
end RT

/-- what looked tells of the fields -/
theorem looked_heads (k : Int) (s : ByteArray) (n : Int) (la : Option Addr) (ln lc : Nat) (hz : s.size < 4294967281) (w : World) (h6 : ¬ (k = 6 ∧ s.size = 0 ∧ n = 0)) :
    Calls Tryd.prog 49 #[.agg #[.int .i64 k, .string s, .int .i64 n, .slice la ln lc]] w fun e w' => e = .returned (.tuple #[.int .i64 0, .bool (RT.okHead k s n ln)]) ∧ (RT.okHead k s n ln = true → ln = 0) ∧ Below w.heap.size w w' := by
  by_cases hlo : k < 1
  · rw [RT.okHead_false k s n ln (.inl hlo)]
    exact (looked_lo k hlo s n la ln lc w).mono fun e w' h => ⟨h.1, fun h => (Bool.false_ne_true h).elim, h.2⟩
  by_cases hhi : 7 < k
  · rw [RT.okHead_false k s n ln (.inr hhi)]
    exact (looked_hi k hhi s n la ln lc w).mono fun e w' h => ⟨h.1, fun h => (Bool.false_ne_true h).elim, h.2⟩
  have bad : ∀ {e : Ending} {w' : World} {b : Bool}, b = false → e = .returned (.tuple #[.int .i64 0, .bool false]) ∧ Below w.heap.size w w' → e = .returned (.tuple #[.int .i64 0, .bool b]) ∧ (b = true → ln = 0) ∧ Below w.heap.size w w' := fun hb h => by
    subst hb
    exact ⟨h.1, fun h => (Bool.false_ne_true h).elim, h.2⟩
  have good : ∀ {e : Ending} {w' : World} {b : Bool}, b = true → ln = 0 → e = .returned (.tuple #[.int .i64 0, .bool true]) ∧ Below w.heap.size w w' → e = .returned (.tuple #[.int .i64 0, .bool b]) ∧ (b = true → ln = 0) ∧ Below w.heap.size w w' := fun hb hl h => by
    subst hb
    exact ⟨h.1, fun _ => hl, h.2⟩
  have nf : ∀ {m : Int}, m ≠ 0 → (m == 0) = false := fun h => beq_eq_false_iff_ne.2 h
  have lf : ln ≠ 0 → ((ln : Int) == 0) = false := fun h => beq_eq_false_iff_ne.2 (by omega)
  have lf' : ln ≠ 0 → (ln == 0) = false := fun h => beq_eq_false_iff_ne.2 h
  have sf : s.size ≠ 0 → (s.size == 0) = false := fun h => beq_eq_false_iff_ne.2 h
  rcases (show k = 1 ∨ k = 2 ∨ k = 3 ∨ k = 4 ∨ k = 5 ∨ k = 6 ∨ k = 7 by omega) with rfl | rfl | rfl | rfl | rfl | rfl | rfl
  · cases hs : Pl.noEnd (Pl.L s)
    · exact (looked_1_fvv s n la ln lc w hz hs).mono fun e w' => bad (by unfold RT.okHead; simp [hs])
    by_cases hn : n = 0
    · by_cases hl : ln = 0
      · exact (looked_1_tzz s n la ln lc w hz hs hn hl).mono fun e w' => good (by unfold RT.okHead; simp [hs, hn, hl]) hl
      · exact (looked_1_tzn s n la ln lc w hz hs hn (lf hl)).mono fun e w' => bad (by unfold RT.okHead; simp [hl])
    · exact (looked_1_tnv s n la ln lc w hz hs (nf hn)).mono fun e w' => bad (by unfold RT.okHead; simp [hn])
  · cases hs : Pl.noEnd (Pl.L s)
    · exact (looked_2_fvv s n la ln lc w hz hs).mono fun e w' => bad (by unfold RT.okHead; simp [hs])
    by_cases hn : n = 0
    · by_cases hl : ln = 0
      · exact (looked_2_tzz s n la ln lc w hz hs hn hl).mono fun e w' => good (by unfold RT.okHead; simp [hs, hn, hl]) hl
      · exact (looked_2_tzn s n la ln lc w hz hs hn (lf hl)).mono fun e w' => bad (by unfold RT.okHead; simp [hl])
    · exact (looked_2_tnv s n la ln lc w hz hs (nf hn)).mono fun e w' => bad (by unfold RT.okHead; simp [hn])
  · by_cases hs : s.size = 0
    · by_cases hl : ln = 0
      · exact (looked_3_evz s n la ln lc w (Pl.isE_true hs) hl).mono fun e w' => good (by unfold RT.okHead; simp [hs, hl]) hl
      · exact (looked_3_evn s n la ln lc w (Pl.isE_true hs) (lf hl)).mono fun e w' => bad (by unfold RT.okHead; simp [hl])
    · exact (looked_3_nvv s n la ln lc w (Pl.isE_false hs)).mono fun e w' => bad (by unfold RT.okHead; simp [hs])
  · by_cases hn : n = 0
    · by_cases hl : ln = 0
      · exact (looked_4_vzz s n la ln lc w hn hl).mono fun e w' => good (by unfold RT.okHead; simp [hn, hl]) hl
      · exact (looked_4_vzn s n la ln lc w hn (lf hl)).mono fun e w' => bad (by unfold RT.okHead; simp [hl])
    · exact (looked_4_vnv s n la ln lc w (nf hn)).mono fun e w' => bad (by unfold RT.okHead; simp [hn])
  · by_cases hs : s.size = 0
    · by_cases hn : n = 0
      · by_cases hl : ln = 0
        · exact (looked_5_ezz s n la ln lc w (Pl.isE_true hs) hn hl).mono fun e w' => good (by unfold RT.okHead; simp [hs, hn, hl]) hl
        · exact (looked_5_ezn s n la ln lc w (Pl.isE_true hs) hn (lf hl)).mono fun e w' => bad (by unfold RT.okHead; simp [hl])
      · exact (looked_5_env s n la ln lc w (Pl.isE_true hs) (nf hn)).mono fun e w' => bad (by unfold RT.okHead; simp [hn])
    · exact (looked_5_nvv s n la ln lc w (Pl.isE_false hs)).mono fun e w' => bad (by unfold RT.okHead; simp [hs])
  · by_cases hs : s.size = 0
    · by_cases hn : n = 0
      · exact absurd ⟨rfl, hs, hn⟩ h6
      · exact (looked_6_env s n la ln lc w (Pl.isE_true hs) (nf hn)).mono fun e w' => bad (by unfold RT.okHead; simp [hn])
    · exact (looked_6_nvv s n la ln lc w (Pl.isE_false hs)).mono fun e w' => bad (by unfold RT.okHead; simp [hs])
  · by_cases hs : s.size = 0
    · by_cases hn : n = 0
      · by_cases hl : ln = 0
        · exact (looked_7_ezz s n la ln lc w (Pl.isE_true hs) hn hl).mono fun e w' => good (by unfold RT.okHead; simp [hs, hn, hl]) hl
        · exact (looked_7_ezn s n la ln lc w (Pl.isE_true hs) hn (lf hl)).mono fun e w' => bad (by unfold RT.okHead; simp [hl])
      · exact (looked_7_env s n la ln lc w (Pl.isE_true hs) (nf hn)).mono fun e w' => bad (by unfold RT.okHead; simp [hn])
    · exact (looked_7_nvv s n la ln lc w (Pl.isE_false hs)).mono fun e w' => bad (by unfold RT.okHead; simp [hs])

set_option maxHeartbeats 8000000 in
theorem looked_walk (W : World) : ∀ (t : RT), t.sz ≤ 1073741824 → ∀ (c0 c1 c2 c3 : Value), Mm.RepX W t [c0, c1, c2, c3] → ∀ (w : World), Below W.heap.size W w →
    Calls Tryd.prog 49 #[.agg #[c0, c1, c2, c3]] w fun e w' => e = .returned (.tuple #[.int .i64 t.lookD, .bool t.ok]) ∧ Below w.heap.size w w' := by
  intro t
  induction t using RT.ind with
  | h k s nn ts ih =>
  intro hsz c0 c1 c2 c3 hX w hW
  obtain ⟨la, lc, hcs, hel⟩ := hX.open
  simp only [List.cons.injEq, and_true] at hcs
  obtain ⟨rfl, rfl, rfl, rfl⟩ := hcs
  rw [RT.sz_mk] at hsz
  by_cases h6 : ¬ (k = 6 ∧ s.size = 0 ∧ nn = 0)
  · refine (looked_heads k s nn la ts.length lc (by omega) w h6).mono ?_
    rintro e w' ⟨rfl, hl, hb⟩
    refine ⟨?_, hb⟩
    cases ho : RT.okHead k s nn ts.length
    · have hf : (RT.mk k s nn ts).ok = false := by rw [RT.ok_mk, ho]; rfl
      rw [hf, RT.lookD_not hf]
    · have h0 := hl ho
      have hts : ts = [] := List.eq_nil_of_length_eq_zero h0
      have ht : (RT.mk k s nn ts).ok = true := by rw [RT.ok_mk, ho, hts]; simp [RT.okL]
      have hk6 : k ≠ 6 := fun e => by
        subst e
        refine h6 ⟨rfl, ?_⟩
        rcases RT.okHead_cases ho with h | h | h | h | h | h | ⟨_, h1, h2⟩
        · exact absurd h.1 (by decide)
        · exact absurd h.1 (by decide)
        · exact absurd h.1 (by decide)
        · exact absurd h.1 (by decide)
        · exact absurd h.1 (by decide)
        · exact absurd h.1 (by decide)
        · exact ⟨by rw [h1]; rfl, h2⟩
      rw [ht, RT.lookD_ok ht, RT.depth_mk, if_neg hk6]
      rfl
  obtain ⟨rfl, hs0, rfl⟩ := Classical.not_not.1 h6
  obtain rfl := Pl.isE_true hs0
  obtain ⟨n, hnn⟩ : ∃ n, n = ts.length := ⟨_, rfl⟩
  have hn' : n ≤ 1099511627776 := by have := RT.szL_len ts; omega
  obtain ⟨p, hp⟩ : ∃ p, p = w.heap.size := ⟨_, rfl⟩
  obtain ⟨w0, hw0⟩ : ∃ w0, w0 = w.alloc (.cells #[.int .i64 6, .string ⟨#[]⟩, .int .i64 0, .slice la ts.length lc] 31) := ⟨_, rfl⟩
  have HP0 : Hid (w0.heap[p]? = some (.cells #[.int .i64 6, .string ⟨#[]⟩, .int .i64 0, .slice la ts.length lc] 31 (0, 0))) := by
    show _ = _
    rw [hw0, hp]
    exact heap_alloc_new w _
  have HB0 : Hid (Below w.heap.size w w0) := by rw [hw0]; exact (Below.refl _ _).alloc (Nat.le_refl _) _
  have HS0 : Hid (w0.heap.size = w.heap.size + 1) := by show _ = _; rw [hw0]; simp
  have HK : Hid (∀ V, Below w0.heap.size w0 V → V.cell? ⟨p, 0, none⟩ = some (.int .i64 6) ∧ V.cell? ⟨p, 1, none⟩ = some (.string ⟨#[]⟩) ∧ V.cell? ⟨p, 2, none⟩ = some (.int .i64 0) ∧ V.cell? ⟨p, 3, none⟩ = some (.slice la ts.length lc)) := fun V hV => by
    have h := (hV.block p (by rw [HS0.out, hp]; omega)).trans HP0.out
    exact ⟨Mm.cellOf h rfl, Mm.cellOf h rfl, Mm.cellOf h rfl, Mm.cellOf h rfl⟩
  have HW0eq := Pl.hid hw0
  have HPeq := Pl.hid hp
  obtain ⟨k0, k1, k2, k3⟩ := HK.out w0 (Below.refl _ _)
  have HNN := Pl.hid hnn
  have HW := Pl.hid hW
  have IH := Pl.hid ih
  have HSZ : Hid (∀ t ∈ ts, t.sz ≤ 1073741824) := fun t ht => by have := RT.szL_mem ht; omega
  have HSZL : Hid (RT.szL ts ≤ 1073741824) := by show _ ≤ _; omega
  have HEL := Pl.hid hel
  have HOKT : Hid (RT.okL ts = true → (RT.mk 6 ⟨#[]⟩ 0 ts).ok = true) := fun h => by rw [RT.ok_mk, h]; rfl
  have HOKF : Hid (RT.okL ts = false → (RT.mk 6 ⟨#[]⟩ 0 ts).ok = false) := fun h => by rw [RT.ok_mk, h]; simp
  rw [← hnn] at HK HW0eq k3 ⊢
  rw [hw0, hp] at k0 k1 k2 k3
  rw [← hnn] at k0 k1 k2 k3
  clear hel hsz hX ih hw0 hp hW hnn hs0 h6
  go_enter Tryd.func49, Tryd.ntmps49
  go_wp2_with fail
  go_quiet (fail)
  go_wp2_with fail
  rw [← HW0eq.out]
  clear k0 k1 k2 k3
  go_loopw [58, 7] (fun iv dv wr => ∃ (i : Nat) (d : Nat), iv = .int .i64 i ∧ dv = .int .i64 d ∧ i ≤ n ∧ d ≤ 1073741824 ∧ Hid (d = RT.depthL (ts.take i)) ∧ Hid (RT.okL (ts.take i) = true) ∧ Hid (Below w0.heap.size w0 wr)) (fun iv _ _ => n - (intOf iv).toNat)
  case atStart => exact ⟨0, 0, rfl, rfl, Nat.zero_le _, by omega, by show _ = _; rw [List.take_zero]; simp [RT.depthL], by show _ = _; rw [List.take_zero]; simp [RT.okL], Mm.below_drewN _ _⟩
  case round =>
    obtain ⟨i, d, rfl, rfl, hi, hd, HD, HOK, HB⟩ := hrel
    rcases Nat.lt_or_ge i n with hlt | hge
    · rcases HEL.out with h0 | ⟨blk, rfl, hbl, hel⟩
      · have := HNN.out; omega
      have hlt' : i < ts.length := by rw [← HNN.out]; exact hlt
      obtain ⟨f0, f1, f2, f3, g0, g1, g2, g3, hrep⟩ := hel i hlt'
      have HWr : Hid (Below W.heap.size W wr) := HW.out.trans ((HB0.out.trans (HB.out.mono HB0.out.size)).mono HW.out.size)
      have e0 := (HWr.out.cell (p := ⟨blk, i * 4, none⟩) hbl).trans g0
      have e1 := (HWr.out.cell (p := ⟨blk, i * 4 + 1, none⟩) hbl).trans g1
      have e2 := (HWr.out.cell (p := ⟨blk, i * 4 + 2, none⟩) hbl).trans g2
      have e3 := (HWr.out.cell (p := ⟨blk, i * 4 + 3, none⟩) hbl).trans g3
      have HREP := Pl.hid hrep
      clear g0 g1 g2 g3 hrep hel
      have HSZW : Hid (w0.heap.size ≤ wr.heap.size) := HB.out.size
      go_wp2_with (refine Mm.wp_store4 _ rfl _ _ rfl wr.heap.size _ _ _ _ _ _ (heap_alloc_new wr _) rfl rfl rfl HREP.out.one ?_; intro w4 hw4 hs4 hg4; have HW4 := Pl.hid hw4; have HG4 := Pl.hid hg4; have HS4 := Pl.hid hs4; clear hw4 hs4 hg4; have q0 := Mm.cellOf (i := 0) (v := f0) HW4.out rfl; have q1 := Mm.cellOf (i := 1) (v := f1) HW4.out rfl; have q2 := Mm.cellOf (i := 2) (v := f2) HW4.out rfl; have q3 := Mm.cellOf (i := 3) (v := f3) HW4.out rfl; clear e0 e1 e2 e3)
      have HB4 : Hid (Below w0.heap.size w0 w4) := by
        refine (HB.out.alloc HB.out.size (.cells #[.int .i64 0, .string ⟨#[]⟩, .int .i64 0, .slice none 0 0] 31)).grown HG4.out (by have := HSZW.out; simp; omega) (fun k hk => by injection hk with hk; have := HSZW.out; omega)
      have HI := Pl.hid (IH.out _ (List.getElem_mem hlt') (HSZ.out _ (List.getElem_mem hlt')) f0 f1 f2 f3 HREP.out w4 (HW.out.trans ((HB0.out.trans (HB4.out.mono HB0.out.size)).mono HW.out.size)))
      obtain ⟨E, hE⟩ : ∃ E, E = (ts[i]'hlt').depth := ⟨_, rfl⟩
      have hEl : E ≤ 1073741824 := by have := RT.depth_le (ts[i]'hlt'); have := HSZ.out _ (List.getElem_mem hlt'); omega
      have HE := Pl.hid hE
      clear hE
      cases hok : (ts[i]'hlt').ok
      · rw [RT.lookD_not hok, hok] at HI
        have HF : Hid (RT.okL ts = false) := by
          show _ = _
          rw [RT.okL_all, List.all_eq_false]
          exact ⟨_, List.getElem_mem hlt', by rw [hok]; exact Bool.false_ne_true⟩
        clear hok
        refine HI.out.mono ?_
        rintro e w5 ⟨rfl, hb5⟩
        have HB5 := Pl.hid (HB4.out.trans (hb5.mono HB4.out.size))
        clear hb5 q0 q1 q2 q3
        go_wp2_with fail
        go_ret2
        rw [HOKF.out HF.out, RT.lookD_not (HOKF.out HF.out)]
        exact ⟨rfl, HB0.out.trans (HB5.out.mono HB0.out.size)⟩
      · rw [RT.lookD_ok hok, hok, ← HE.out] at HI
        have HOK' : Hid (RT.okL (ts.take (i + 1)) = true) := by
          show _ = _
          rw [RT.okL_take ts i hlt', HOK.out, hok]
          rfl
        clear hok
        refine HI.out.mono ?_
        rintro e w5 ⟨rfl, hb5⟩
        have HB5 := Pl.hid (HB4.out.trans (hb5.mono HB4.out.size))
        clear hb5 q0 q1 q2 q3
        go_wp2_with fail
        refine ⟨⟨i + 1, max d E, by go_num, by rw [show ((max d E : Nat) : Int) = max (d : Int) (E : Int) by omega], by omega, by omega, ?_, HOK', HB5⟩, by simp [intOf]; omega⟩
        show _ = _
        rw [RT.depthL_take ts i hlt', ← HE.out, HD.out]
    · obtain rfl : i = n := by omega
      have HF : Hid (RT.okL ts = true) := by have h := HOK.out; rw [HNN.out, List.take_length] at h; exact h
      obtain ⟨k0, k1, k2, k3⟩ := HK.out wr HB.out
      rw [HPeq.out] at k0
      clear k1 k2 k3
      go_wp2_with fail
      go_ret2
      rw [HOKT.out HF.out, RT.lookD_ok (HOKT.out HF.out), RT.depth_mk, if_pos rfl]
      have h := HD.out
      rw [HNN.out, List.take_length] at h
      rw [h]
      exact ⟨rfl, HB0.out.trans (HB.out.mono HB0.out.size)⟩
end Go.Proofs.YtakldjdohgmeiaaDoor

namespace Go.Proofs.YtakldjdohgmeiaaDoor
open Go.RowKit
set_option maxRecDepth 20000

namespace Pl
/-- a line: how it goes, its text, what stands behind it -/
def lineR (l : List UInt8) : Int × List UInt8 × List UInt8 :=
  match l.dropWhile (fun c => !isEnd c) with
  | [] => (5, [], [])
  | c :: r => if c = 10 then (160, [], []) else match r with
    | [] => (5, [], [])
    | d :: r' => if d = 10 then (0, l.takeWhile (fun c => !isEnd c), r') else (160, [], [])
theorem noEnd_cons (c : UInt8) (l : List UInt8) : noEnd (c :: l) = (!isEnd c && noEnd l) := by simp [noEnd]
theorem noEnd_drop : ∀ (s r : List UInt8), noEnd s = true → (s ++ r).dropWhile (fun c => !isEnd c) = r.dropWhile (fun c => !isEnd c) ∧ (s ++ r).takeWhile (fun c => !isEnd c) = s ++ r.takeWhile (fun c => !isEnd c)
  | [], r, _ => ⟨rfl, rfl⟩
  | c :: s, r, h => by
    rw [noEnd_cons, Bool.and_eq_true] at h
    obtain ⟨h1, h2⟩ := noEnd_drop s r h.2
    simp only [List.cons_append, List.dropWhile_cons, List.takeWhile_cons, h.1, if_true, h1, h2]
    exact ⟨trivial, trivial⟩
theorem line_ok (s r : List UInt8) (h : noEnd s = true) : lineR (s ++ 13 :: 10 :: r) = (0, s, r) := by
  obtain ⟨h1, h2⟩ := noEnd_drop s (13 :: 10 :: r) h
  unfold lineR
  rw [h1, h2]
  simp [isEnd]
theorem line_none (s : List UInt8) (h : noEnd s = true) : lineR s = (5, [], []) := by
  obtain ⟨h1, _⟩ := noEnd_drop s [] h
  rw [List.append_nil] at h1
  unfold lineR
  rw [h1]
  rfl
theorem line_lf (s r : List UInt8) (h : noEnd s = true) : lineR (s ++ 10 :: r) = (160, [], []) := by
  obtain ⟨h1, _⟩ := noEnd_drop s (10 :: r) h
  unfold lineR
  rw [h1]
  simp [isEnd]
theorem line_cr (s : List UInt8) (h : noEnd s = true) : lineR (s ++ [13]) = (5, [], []) := by
  obtain ⟨h1, _⟩ := noEnd_drop s [13] h
  unfold lineR
  rw [h1]
  simp [isEnd]
theorem line_crx (s r : List UInt8) (x : UInt8) (hx : x ≠ 10) (h : noEnd s = true) : lineR (s ++ 13 :: x :: r) = (160, [], []) := by
  obtain ⟨h1, _⟩ := noEnd_drop s (13 :: x :: r) h
  unfold lineR
  rw [h1]
  simp [isEnd, hx]
theorem line_cases (l : List UInt8) : ∃ s r, noEnd s = true ∧ l = s ++ r ∧ (r = [] ∨ (∃ r', r = 10 :: r') ∨ r = [13] ∨ (∃ x r', x ≠ 10 ∧ r = 13 :: x :: r') ∨ ∃ r', r = 13 :: 10 :: r') := by
  induction l with
  | nil => exact ⟨[], [], rfl, rfl, .inl rfl⟩
  | cons c l ih =>
    by_cases hc : isEnd c = true
    · refine ⟨[], c :: l, rfl, rfl, ?_⟩
      unfold isEnd at hc
      simp only [Bool.or_eq_true, beq_iff_eq] at hc
      rcases hc with rfl | rfl
      · cases l with
        | nil => exact .inr (.inr (.inl rfl))
        | cons d l =>
          by_cases hd : d = 10
          · subst hd; exact .inr (.inr (.inr (.inr ⟨_, rfl⟩)))
          · exact .inr (.inr (.inr (.inl ⟨d, l, hd, rfl⟩)))
      · exact .inr (.inl ⟨_, rfl⟩)
    · obtain ⟨s, r, h1, h2, h3⟩ := ih
      refine ⟨c :: s, r, ?_, by rw [h2]; rfl, h3⟩
      rw [noEnd_cons, h1]
      simp [hc]
/-- what a line's text and rest are -/
theorem line_back {l : List UInt8} (h : (lineR l).1 = 0) : noEnd (lineR l).2.1 = true ∧ l = (lineR l).2.1 ++ 13 :: 10 :: (lineR l).2.2 := by
  obtain ⟨s, r, h1, rfl, h3 | ⟨r', rfl⟩ | rfl | ⟨x, r', hx, rfl⟩ | ⟨r', rfl⟩⟩ := line_cases l
  · subst h3
    rw [List.append_nil, line_none s h1] at h
    exact absurd h (by decide)
  · rw [line_lf s r' h1] at h
    exact absurd h (by decide)
  · rw [line_cr s h1] at h
    exact absurd h (by decide)
  · rw [line_crx s r' x hx h1] at h
    exact absurd h (by decide)
  · rw [line_ok s r' h1]
    exact ⟨h1, rfl⟩
theorem line_code (l : List UInt8) : (lineR l).1 = 0 ∨ (lineR l).1 = 5 ∨ (lineR l).1 = 160 := by
  obtain ⟨s, r, h1, rfl, h3 | ⟨r', rfl⟩ | rfl | ⟨x, r', hx, rfl⟩ | ⟨r', rfl⟩⟩ := line_cases l
  · subst h3
    rw [List.append_nil, line_none s h1]
    exact .inr (.inl rfl)
  · rw [line_lf s r' h1]
    exact .inr (.inr rfl)
  · rw [line_cr s h1]
    exact .inr (.inl rfl)
  · rw [line_crx s r' x hx h1]
    exact .inr (.inr rfl)
  · rw [line_ok s r' h1]
    exact .inl rfl
theorem noEnd_append (a b : List UInt8) : noEnd (a ++ b) = (noEnd a && noEnd b) := by simp [noEnd]
/-- a line that is broken off -/
theorem line_short {s p q : List UInt8} (hs : noEnd s = true) (h : s ++ [13, 10] = p ++ q) (hq : q ≠ []) : (lineR p).1 = 5 := by
  rcases List.append_eq_append_iff.1 h with ⟨a, h1, h2⟩ | ⟨a, h1, h2⟩
  · subst h1
    cases a with
    | nil => rw [List.append_nil, line_none s hs]
    | cons c a =>
      cases a with
      | nil =>
        simp only [List.cons_append, List.nil_append, List.cons.injEq] at h2
        obtain ⟨rfl, _⟩ := h2
        rw [line_cr s hs]
      | cons d a =>
        simp only [List.cons_append, List.cons.injEq] at h2
        obtain ⟨_, _, h2⟩ := h2
        have := List.append_eq_nil_iff.1 h2.symm
        exact absurd this.2 hq
  · rw [h1, noEnd_append, Bool.and_eq_true] at hs
    rw [line_none p hs.1]
end Pl

/-- the first line of a reply -/
inductive Hd where
  | bad (c : Int)
  | one (t : RT) (rest : List UInt8)
  | arr (n : Nat) (rest : List UInt8)
namespace RT
open Pl
def nul : RT := .mk 0 ⟨#[]⟩ 0 []
/-- the kind that a first byte tells; 0: none -/
def kd (f : UInt8) : Int := if f = 43 then 1 else if f = 45 then 2 else if f = 58 then 3 else if f = 36 then 4 else if f = 42 then 5 else 0
/-- so many bytes, and the end behind them -/
def bulkR (n : Nat) (l : List UInt8) : Int × List UInt8 × List UInt8 :=
  if l.length < n + 2 then (5, [], []) else if slc l n (n + 2) = [13, 10] then (0, l.take n, l.drop (n + 2)) else (160, [], [])
/-- behind a first line: the number -/
def numR (k : Int) (v : Int) (rest : List UInt8) : Hd :=
  if k = 3 then .one (.mk 3 ⟨#[]⟩ v []) rest else if v = -1 then .one (.mk (if k = 4 then 5 else 7) ⟨#[]⟩ 0 []) rest else if 16777216 < v then .bad 2
  else if k = 4 then (if (bulkR v.toNat rest).1 = 0 then .one (.mk 4 (B (bulkR v.toNat rest).2.1) 0 []) (bulkR v.toNat rest).2.2 else .bad (bulkR v.toNat rest).1) else .arr v.toNat rest
def hdR : List UInt8 → Hd
  | [] => .bad 5
  | f :: r => if kd f = 0 then .bad 160 else if (lineR r).1 ≠ 0 then .bad (lineR r).1 else if kd f ≤ 2 then .one (.mk (kd f) (B (lineR r).2.1) 0 []) (lineR r).2.2
    else if rIc (lineR r).2.1 ≠ 0 ∨ (3 < kd f ∧ rIv (lineR r).2.1 < -1) then .bad 160 else numR (kd f) (rIv (lineR r).2.1) (lineR r).2.2
/-- so many, one behind the other -/
def decN (f : List UInt8 → Int × RT × List UInt8) : Nat → List RT → List UInt8 → Int × List RT × List UInt8
  | 0, ts, l => (0, ts, l)
  | n + 1, ts, l => if (f l).1 = 0 then decN f n (ts ++ [(f l).2.1]) (f l).2.2 else ((f l).1, [], [])
def arrR (q : Int × List RT × List UInt8) : Int × RT × List UInt8 := if q.1 = 0 then (0, .mk 6 ⟨#[]⟩ 0 q.2.1, q.2.2) else (q.1, nul, [])
/-- a reply, within at most so many arrays -/
def decR : Nat → List UInt8 → Int × RT × List UInt8
  | 0, l => match hdR l with
    | .bad c => (c, nul, [])
    | .one t r => (0, t, r)
    | .arr _ _ => (161, nul, [])
  | d + 1, l => match hdR l with
    | .bad c => (c, nul, [])
    | .one t r => (0, t, r)
    | .arr n r => arrR (decN (decR d) n [] r)
theorem decR_bad {l : List UInt8} {c : Int} (h : hdR l = .bad c) (d : Nat) : decR d l = (c, nul, []) := by cases d <;> simp only [decR, h]
theorem decR_one {l r : List UInt8} {t : RT} (h : hdR l = .one t r) (d : Nat) : decR d l = (0, t, r) := by cases d <;> simp only [decR, h]
theorem decR_deep {l r : List UInt8} {n : Nat} (h : hdR l = .arr n r) : decR 0 l = (161, nul, []) := by simp only [decR, h]
theorem decR_arr {l r : List UInt8} {n : Nat} (h : hdR l = .arr n r) (d : Nat) : decR (d + 1) l = arrR (decN (decR d) n [] r) := by simp only [decR, h]

/-! there -/
theorem noEnd_digits {l : List UInt8} (h : ∀ c ∈ l, 45 ≤ c.toNat) : noEnd l = true := by
  unfold noEnd
  rw [List.all_eq_true]
  intro c hc
  have := h c hc
  have h1 : c ≠ 13 := fun e => by rw [e] at this; exact absurd this (by decide)
  have h2 : c ≠ 10 := fun e => by rw [e] at this; exact absurd this (by decide)
  simp [isEnd, h1, h2]
theorem dec_ge {k : Nat} {c : UInt8} (h : c ∈ Lib.decDigits k) : 45 ≤ c.toNat := by
  have := (num_dec k).2.1 c h
  omega
theorem itoa_ge {n : Int} {c : UInt8} (h : c ∈ Lib.itoa n) : 45 ≤ c.toNat := by
  by_cases h0 : n < 0
  · rw [itoa_neg h0] at h
    rcases List.mem_cons.1 h with rfl | h
    · decide
    · exact dec_ge h
  · rw [itoa_pos (by omega)] at h
    exact dec_ge h
theorem rI_dec' (k : Nat) (h : k ≤ 9223372036854775807) : rIv (Lib.decDigits k) = (k : Int) ∧ rIc (Lib.decDigits k) = 0 := by
  have := rI_itoa (n := (k : Int)) (by unfold In64; omega)
  rw [itoa_pos (by omega)] at this
  have e : Lib.decDigits ((k : Int)).toNat = Lib.decDigits k := rfl
  rw [e] at this
  unfold rIv rIc
  rw [this]
  exact ⟨rfl, rfl⟩
theorem rI_itoa' (n : Int) (h : In64 n) : rIv (Lib.itoa n) = n ∧ rIc (Lib.itoa n) = 0 := by
  have := rI_itoa h
  unfold rIv rIc
  rw [this]
  exact ⟨rfl, rfl⟩
theorem bulkR_ok (s r : List UInt8) : bulkR s.length (s ++ 13 :: 10 :: r) = (0, s, r) := by
  unfold bulkR slc
  rw [if_neg (by simp)]
  have e1 : (s ++ 13 :: 10 :: r).drop s.length = 13 :: 10 :: r := by simp
  have e2 : (s ++ 13 :: 10 :: r).drop (s.length + 2) = r := by rw [← List.drop_drop, e1]; rfl
  have e3 : (s ++ 13 :: 10 :: r).take s.length = s := by simp
  rw [e1, e2, e3, show s.length + 2 - s.length = 2 by omega]
  simp
/-- what the head of a right reply reads as -/
theorem hd_enc {k : Int} {s : ByteArray} {n : Int} {l : List RT} (h : okHead k s n l.length = true) (hn : In64 n) (hs : s.size ≤ 16777216) (hl : l.length ≤ 16777216) (r : List UInt8) :
    hdR (encH k s n l.length ++ r) = if k = 6 then .arr l.length r else .one (.mk k s n []) r := by
  have h5 : hdR ([36, 45, 49, 13, 10] ++ r) = .one (.mk 5 ⟨#[]⟩ 0 []) r := by
    have e := line_ok [45, 49] r (by decide)
    have e' : lineR ([45, 49, 13, 10] ++ r) = (0, [45, 49], r) := e
    obtain ⟨v, c⟩ := rI_itoa' (-1) (by unfold In64; omega)
    have ei : Lib.itoa (-1) = [45, 49] := by decide +kernel
    rw [ei] at v c
    show hdR (36 :: ([45, 49, 13, 10] ++ r)) = _
    have ek : kd 36 = 4 := by decide
    simp only [hdR, ek, e', v, c, numR]
    simp
  have h7 : hdR ([42, 45, 49, 13, 10] ++ r) = .one (.mk 7 ⟨#[]⟩ 0 []) r := by
    have e := line_ok [45, 49] r (by decide)
    have e' : lineR ([45, 49, 13, 10] ++ r) = (0, [45, 49], r) := e
    obtain ⟨v, c⟩ := rI_itoa' (-1) (by unfold In64; omega)
    have ei : Lib.itoa (-1) = [45, 49] := by decide +kernel
    rw [ei] at v c
    show hdR (42 :: ([45, 49, 13, 10] ++ r)) = _
    have ek : kd 42 = 5 := by decide
    simp only [hdR, ek, e', v, c, numR]
    simp
  rcases okHead_cases h with ⟨rfl, h1, rfl, h2⟩ | ⟨rfl, h1, rfl, h2⟩ | ⟨rfl, rfl, h2⟩ | ⟨rfl, rfl, h2⟩ | ⟨rfl, rfl, rfl, h2⟩ | ⟨rfl, rfl, rfl, h2⟩ | ⟨rfl, rfl, rfl⟩
  · rw [if_neg (by decide)]
    have e := line_ok (L s) r h1
    unfold encH crlf
    simp only [if_true, List.append_assoc, List.cons_append, List.nil_append]
    have ek : kd 43 = 1 := by decide
    simp only [hdR, ek, e, B_L]
    simp
  · rw [if_neg (by decide)]
    have e := line_ok (L s) r h1
    unfold encH crlf
    rw [if_neg (by decide)]
    simp only [if_true, List.append_assoc, List.cons_append, List.nil_append]
    have ek : kd 45 = 2 := by decide
    simp only [hdR, ek, e, B_L]
    simp
  · rw [if_neg (by decide)]
    have e := line_ok (Lib.itoa n) r (noEnd_digits fun c hc => itoa_ge hc)
    obtain ⟨v, c⟩ := rI_itoa' n hn
    unfold encH crlf
    rw [if_neg (by decide), if_neg (by decide)]
    simp only [if_true, List.append_assoc, List.cons_append, List.nil_append]
    have ek : kd 58 = 3 := by decide
    simp only [hdR, ek, e, v, c, numR]
    simp
  · rw [if_neg (by decide)]
    have hsz : (L s).length ≤ 16777216 := by rw [L_length]; exact hs
    have e := line_ok (Lib.decDigits (L s).length) (L s ++ 13 :: 10 :: r) (noEnd_digits fun c hc => dec_ge hc)
    obtain ⟨v, c⟩ := rI_dec' (L s).length (by omega)
    have eb := bulkR_ok (L s) r
    unfold encH bulkE crlf
    rw [if_neg (by decide), if_neg (by decide), if_neg (by decide)]
    simp only [if_true, List.append_assoc, List.cons_append, List.nil_append]
    have ek : kd 36 = 4 := by decide
    have n1 : ¬ (((L s).length : Nat) : Int) = -1 := by omega
    have n2 : ¬ (16777216 : Int) < (((L s).length : Nat) : Int) := by omega
    have n3 : ¬ (((L s).length : Nat) : Int) < -1 := by omega
    simp only [hdR, ek, e, v, c, numR, n1, n2, n3, Int.toNat_natCast, eb, B_L]
    simp
  · rw [if_neg (by decide)]
    exact h5
  · rw [if_neg (by decide)]
    exact h7
  · rw [if_pos rfl]
    have e := line_ok (Lib.decDigits l.length) r (noEnd_digits fun c hc => dec_ge hc)
    obtain ⟨v, c⟩ := rI_dec' l.length (by omega)
    unfold encH crlf
    rw [if_neg (by decide), if_neg (by decide), if_neg (by decide), if_neg (by decide), if_neg (by decide), if_neg (by decide)]
    simp only [List.append_assoc, List.cons_append, List.nil_append]
    have ek : kd 42 = 5 := by decide
    have n1 : ¬ ((l.length : Nat) : Int) = -1 := by omega
    have n2 : ¬ (16777216 : Int) < ((l.length : Nat) : Int) := by omega
    have n3 : ¬ ((l.length : Nat) : Int) < -1 := by omega
    simp only [hdR, ek, e, v, c, numR, n1, n2, n3, Int.toNat_natCast]
    simp
theorem decN_all (f : List UInt8 → Int × RT × List UInt8) : ∀ (l : List RT) (ts : List RT) (r : List UInt8), (∀ t ∈ l, ∀ r', f (t.enc ++ r') = (0, t, r')) → decN f l.length ts (encL l ++ r) = (0, ts ++ l, r)
  | [], ts, r, _ => by simp [decN, encL]
  | t :: l, ts, r, h => by
    have h1 := h t (by simp) (encL l ++ r)
    have h2 := decN_all f l (ts ++ [t]) r fun t' ht' => h t' (by simp [ht'])
    simp only [List.length_cons, decN, encL, List.append_assoc, h1, if_true, h2]
    simp
theorem depthL_mem : ∀ {l : List RT} {t : RT}, t ∈ l → t.depth ≤ depthL l
  | x :: l, t, h => by
    simp only [depthL]
    rcases List.mem_cons.1 h with rfl | h
    · exact Nat.le_max_left _ _
    · exact Nat.le_trans (depthL_mem h) (Nat.le_max_right _ _)
theorem encL_mem : ∀ {l : List RT} {t : RT}, t ∈ l → t.enc.length ≤ (encL l).length
  | x :: l, t, h => by
    simp only [encL, List.length_append]
    rcases List.mem_cons.1 h with rfl | h
    · omega
    · have := encL_mem h
      omega
theorem encH_text {k : Int} {s : ByteArray} {n : Int} {ln : Nat} (h : okHead k s n ln = true) : s.size + 3 ≤ (encH k s n ln).length := by
  have hp := fun m : Nat => show 0 < (Lib.decDigits m).length from by
    have := (plainW_allD (dec_plain m)).2
    cases hh : Lib.decDigits m with
    | nil => exact absurd hh this
    | cons _ _ => simp
  have e0 : (⟨#[]⟩ : ByteArray).size = 0 := rfl
  rcases okHead_cases h with ⟨rfl, h1, rfl, h2⟩ | ⟨rfl, h1, rfl, h2⟩ | ⟨rfl, rfl, h2⟩ | ⟨rfl, rfl, h2⟩ | ⟨rfl, rfl, rfl, h2⟩ | ⟨rfl, rfl, rfl, h2⟩ | ⟨rfl, rfl, rfl⟩
  · simp [encH, crlf, L_length]
  · simp [encH, crlf, L_length]
  · simp [encH, crlf, e0]
  · simp [encH, bulkE, crlf, L_length]; omega
  · simp [encH, e0]
  · simp [encH, e0]
  · simp [encH, crlf, e0]
theorem szL_le9 : ∀ l : List RT, (∀ t ∈ l, t.sz ≤ 9 * t.enc.length) → szL l ≤ 9 * (encL l).length
  | [], _ => by simp [szL, encL]
  | t :: l, h => by
    have h1 := h t (by simp)
    have h2 := szL_le9 l fun t' ht' => h t' (by simp [ht'])
    simp only [szL, encL, List.length_append]
    omega
theorem encL_len : ∀ l : List RT, (∀ t ∈ l, 3 ≤ t.enc.length) → 3 * l.length ≤ (encL l).length
  | [], _ => by simp
  | t :: l, h => by
    have h1 := h t (by simp)
    have h2 := encL_len l fun t' ht' => h t' (by simp [ht'])
    simp only [encL, List.length_append, List.length_cons]
    omega
theorem okL_mem {l : List RT} (h : okL l = true) {t : RT} (ht : t ∈ l) : t.ok = true := (okL_iff l).1 h t ht
/-- a right reply's weight is bounded by its bytes -/
theorem sz_enc (t : RT) : t.ok = true → t.sz ≤ 9 * t.enc.length ∧ 3 ≤ t.enc.length := by
  induction t using RT.ind with
  | h k s n l ih =>
    intro h
    rw [ok_mk, Bool.and_eq_true] at h
    have h1 := encH_text h.1
    have h2 := szL_le9 l fun t ht => (ih t ht (okL_mem h.2 ht)).1
    rw [sz_mk, enc_mk, List.length_append]
    omega
/-- there: a right reply is read as it was, whatever stands behind it -/
theorem dec_enc : ∀ (d : Nat) (t : RT), t.ok = true → t.In → t.depth ≤ d → t.enc.length ≤ 16777216 → ∀ r, decR d (t.enc ++ r) = (0, t, r) := by
  intro d
  induction d with
  | zero =>
    intro t hok hin hd hl r
    obtain ⟨k, s, n, l⟩ := t
    rw [ok_mk, Bool.and_eq_true] at hok
    rw [depth_mk] at hd
    have hk : k ≠ 6 := fun e => by rw [if_pos e] at hd; omega
    have ht := encH_text hok.1
    rw [enc_mk, List.length_append] at hl
    have hln : l = [] := by
      rcases okHead_cases hok.1 with ⟨_, _, _, h⟩ | ⟨_, _, _, h⟩ | ⟨_, _, h⟩ | ⟨_, _, h⟩ | ⟨_, _, _, h⟩ | ⟨_, _, _, h⟩ | ⟨h, _⟩
      all_goals first | exact List.eq_nil_of_length_eq_zero h | exact absurd h hk
    subst hln
    have := hd_enc (l := []) hok.1 hin.num (by omega) (by simp) r
    rw [if_neg hk] at this
    rw [enc_mk, show encL [] = [] by simp [encL], List.append_nil]
    exact decR_one this 0
  | succ d ih =>
    intro t hok hin hd hl r
    obtain ⟨k, s, n, l⟩ := t
    rw [ok_mk, Bool.and_eq_true] at hok
    rw [depth_mk] at hd
    have ht := encH_text hok.1
    have hle : 3 * l.length ≤ (encL l).length := encL_len l fun t ht => (sz_enc t (okL_mem hok.2 ht)).2
    rw [enc_mk, List.length_append] at hl
    have hh := hd_enc hok.1 hin.num (by omega) (by omega) (encL l ++ r)
    rw [enc_mk, List.append_assoc]
    by_cases hk : k = 6
    · rw [if_pos hk] at hh hd
      rw [decR_arr hh d, decN_all (decR d) l [] r fun t' ht' r' => ih t' (okL_mem hok.2 ht') (hin.list t' ht') (by have := depthL_mem ht'; omega) (by have := encL_mem ht'; omega) r']
      rcases okHead_cases hok.1 with ⟨h, _⟩ | ⟨h, _⟩ | ⟨h, _⟩ | ⟨h, _⟩ | ⟨h, _⟩ | ⟨h, _⟩ | ⟨_, rfl, rfl⟩
      all_goals first | (rw [hk] at h; exact absurd h (by decide)) | (subst hk; simp [arrR])
    · rw [if_neg hk] at hh
      have hln : l = [] := by
        rcases okHead_cases hok.1 with ⟨_, _, _, h⟩ | ⟨_, _, _, h⟩ | ⟨_, _, h⟩ | ⟨_, _, h⟩ | ⟨_, _, _, h⟩ | ⟨_, _, _, h⟩ | ⟨h, _⟩
        all_goals first | exact List.eq_nil_of_length_eq_zero h | exact absurd h hk
      subst hln
      rw [decR_one hh (d + 1)]
      simp [encL]
end RT
end Go.Proofs.YtakldjdohgmeiaaDoor

namespace Go.Proofs.YtakldjdohgmeiaaDoor
open Go.RowKit
set_option maxRecDepth 20000

namespace RT
open Pl
theorem rI_back {l : List UInt8} (h : rIc l = 0) : Lib.itoa (rIv l) = l := by
  unfold rIc rIv at *
  cases hr : rI l with
  | none => rw [hr] at h; exact absurd h (by decide)
  | some m => exact itoa_rI hr
theorem kd_cases (f : UInt8) : (f = 43 ∧ kd f = 1) ∨ (f = 45 ∧ kd f = 2) ∨ (f = 58 ∧ kd f = 3) ∨ (f = 36 ∧ kd f = 4) ∨ (f = 42 ∧ kd f = 5) ∨ kd f = 0 := by
  unfold kd
  by_cases h1 : f = 43
  · exact .inl ⟨h1, if_pos h1⟩
  · rw [if_neg h1]
    by_cases h2 : f = 45
    · exact .inr (.inl ⟨h2, if_pos h2⟩)
    · rw [if_neg h2]
      by_cases h3 : f = 58
      · exact .inr (.inr (.inl ⟨h3, if_pos h3⟩))
      · rw [if_neg h3]
        by_cases h4 : f = 36
        · exact .inr (.inr (.inr (.inl ⟨h4, if_pos h4⟩)))
        · rw [if_neg h4]
          by_cases h5 : f = 42
          · exact .inr (.inr (.inr (.inr (.inl ⟨h5, if_pos h5⟩))))
          · rw [if_neg h5]
            exact .inr (.inr (.inr (.inr (.inr rfl))))
theorem bulkR_back {n : Nat} {l : List UInt8} (h : (bulkR n l).1 = 0) : l = (bulkR n l).2.1 ++ 13 :: 10 :: (bulkR n l).2.2 ∧ (bulkR n l).2.1.length = n := by
  unfold bulkR at *
  by_cases h1 : l.length < n + 2
  · rw [if_pos h1] at h
    exact absurd h (by decide)
  · rw [if_neg h1] at h ⊢
    by_cases h2 : slc l n (n + 2) = [13, 10]
    · rw [if_pos h2]
      refine ⟨?_, by simp; omega⟩
      unfold slc at h2
      rw [show n + 2 - n = 2 by omega] at h2
      have e : l = l.take n ++ ((l.drop n).take 2 ++ (l.drop n).drop 2) := by rw [List.take_append_drop, List.take_append_drop]
      rw [h2, List.drop_drop] at e
      simpa using e
    · rw [if_neg h2] at h
      exact absurd h (by decide)
/-- what a first line tells, where it is a whole reply -/
theorem hd_one {l r : List UInt8} {t : RT} (h : hdR l = .one t r) : t.ok = true ∧ t.In ∧ t.depth = 0 ∧ l = t.enc ++ r := by
  cases l with
  | nil => cases h
  | cons f l =>
    have hno : ∀ t' : RT, t' ∈ ([] : List RT) → In t' := fun t' ht' => by cases ht'
    have h0 : In64 0 := by unfold In64; omega
    rw [hdR] at h
    by_cases h1 : kd f = 0
    · rw [if_pos h1] at h; cases h
    rw [if_neg h1] at h
    by_cases h2 : (lineR l).1 ≠ 0
    · rw [if_pos h2] at h; cases h
    rw [if_neg h2] at h
    obtain ⟨hl1, hl2⟩ := line_back (l := l) (by simpa using h2)
    by_cases h3 : kd f ≤ 2
    · rw [if_pos h3] at h
      injection h with e1 e2
      subst e1
      subst e2
      rcases kd_cases f with ⟨rfl, hk⟩ | ⟨rfl, hk⟩ | ⟨rfl, hk⟩ | ⟨rfl, hk⟩ | ⟨rfl, hk⟩ | hk
      · rw [hk]
        refine ⟨?_, .mk _ _ _ _ h0 hno, by simp [depth], ?_⟩
        · simp [ok, okL, okHead, L_B, hl1]
        · conv => lhs; rw [hl2]
          simp [enc, encH, encL, crlf, L_B]
      · rw [hk]
        refine ⟨?_, .mk _ _ _ _ h0 hno, by simp [depth], ?_⟩
        · simp [ok, okL, okHead, L_B, hl1]
        · conv => lhs; rw [hl2]
          simp [enc, encH, encL, crlf, L_B]
      all_goals omega
    · rw [if_neg h3] at h
      by_cases h4 : rIc (lineR l).2.1 ≠ 0 ∨ (3 < kd f ∧ rIv (lineR l).2.1 < -1)
      · rw [if_pos h4] at h; cases h
      rw [if_neg h4] at h
      have hc : rIc (lineR l).2.1 = 0 := by
        by_cases hc : rIc (lineR l).2.1 = 0
        · exact hc
        · exact absurd (.inl hc) h4
      have hb := rI_back hc
      have hin := rIv_in (lineR l).2.1
      obtain ⟨v, hv⟩ : ∃ v, v = rIv (lineR l).2.1 := ⟨_, rfl⟩
      rw [← hv] at h hb hin h4
      unfold numR at h
      have hl3 : f :: l = f :: (Lib.itoa v ++ 13 :: 10 :: (lineR l).2.2) := by
        rw [hb, ← hl2]
      rcases kd_cases f with ⟨rfl, hk⟩ | ⟨rfl, hk⟩ | ⟨rfl, hk⟩ | ⟨rfl, hk⟩ | ⟨rfl, hk⟩ | hk
      · omega
      · omega
      · rw [if_pos hk] at h
        injection h with e1 e2
        subst e1
        subst e2
        refine ⟨?_, .mk _ _ _ _ hin hno, by simp [depth], ?_⟩
        · have e0 : (⟨#[]⟩ : ByteArray).size = 0 := rfl
          simp [ok, okL, okHead, e0]
        · rw [hl3]
          simp [enc, encH, encL, crlf]
      · rw [if_neg (by omega)] at h
        by_cases h5 : v = -1
        · rw [if_pos h5, if_pos hk] at h
          injection h with e1 e2
          subst e1
          subst e2
          refine ⟨?_, .mk _ _ _ _ h0 hno, by simp [depth], ?_⟩
          · have e0 : (⟨#[]⟩ : ByteArray).size = 0 := rfl
            simp [ok, okL, okHead, e0]
          · rw [hl3, h5, show Lib.itoa (-1) = [45, 49] by decide +kernel]
            simp [enc, encH, encL]
        · rw [if_neg h5] at h
          by_cases h6 : 16777216 < v
          · rw [if_pos h6] at h; cases h
          rw [if_neg h6, if_pos hk] at h
          by_cases h7 : (bulkR v.toNat (lineR l).2.2).1 = 0
          · rw [if_pos h7] at h
            injection h with e1 e2
            subst e1
            subst e2
            obtain ⟨b1, b2⟩ := bulkR_back h7
            generalize bulkR v.toNat (lineR l).2.2 = q at b1 b2 h7 ⊢
            refine ⟨?_, .mk _ _ _ _ h0 hno, by simp [depth], ?_⟩
            · simp [ok, okL, okHead]
            · have hv0 : 0 ≤ v := by
                by_cases hvn : v < -1
                · exact absurd (.inr ⟨by omega, hvn⟩) h4
                · omega
              rw [hl3, itoa_pos hv0, ← b2]
              conv => lhs; rw [b1]
              simp [enc, encH, encL, bulkE, crlf, L_B]
          · rw [if_neg h7] at h; cases h
      · rw [if_neg (by omega)] at h
        by_cases h5 : v = -1
        · rw [if_pos h5, if_neg (by omega)] at h
          injection h with e1 e2
          subst e1
          subst e2
          refine ⟨?_, .mk _ _ _ _ h0 hno, by simp [depth], ?_⟩
          · have e0 : (⟨#[]⟩ : ByteArray).size = 0 := rfl
            simp [ok, okL, okHead, e0]
          · rw [hl3, h5, show Lib.itoa (-1) = [45, 49] by decide +kernel]
            simp [enc, encH, encL]
        · rw [if_neg h5] at h
          by_cases h6 : 16777216 < v
          · rw [if_pos h6] at h; cases h
          rw [if_neg h6, if_neg (by omega)] at h
          cases h
      · exact absurd hk h1
/-- what a first line tells, where it is an array's -/
theorem hd_arr {l r : List UInt8} {n : Nat} (h : hdR l = .arr n r) : n ≤ 16777216 ∧ l = encH 6 ⟨#[]⟩ 0 n ++ r := by
  cases l with
  | nil => cases h
  | cons f l =>
    rw [hdR] at h
    by_cases h1 : kd f = 0
    · rw [if_pos h1] at h; cases h
    rw [if_neg h1] at h
    by_cases h2 : (lineR l).1 ≠ 0
    · rw [if_pos h2] at h; cases h
    rw [if_neg h2] at h
    obtain ⟨hl1, hl2⟩ := line_back (l := l) (by simpa using h2)
    by_cases h3 : kd f ≤ 2
    · rw [if_pos h3] at h; cases h
    rw [if_neg h3] at h
    by_cases h4 : rIc (lineR l).2.1 ≠ 0 ∨ (3 < kd f ∧ rIv (lineR l).2.1 < -1)
    · rw [if_pos h4] at h; cases h
    rw [if_neg h4] at h
    have hc : rIc (lineR l).2.1 = 0 := by
      by_cases hc : rIc (lineR l).2.1 = 0
      · exact hc
      · exact absurd (.inl hc) h4
    have hb := rI_back hc
    obtain ⟨v, hv⟩ : ∃ v, v = rIv (lineR l).2.1 := ⟨_, rfl⟩
    rw [← hv] at h hb h4
    unfold numR at h
    have hl3 : f :: l = f :: (Lib.itoa v ++ 13 :: 10 :: (lineR l).2.2) := by
      rw [hb, ← hl2]
    by_cases h5 : kd f = 3
    · rw [if_pos h5] at h; cases h
    rw [if_neg h5] at h
    by_cases h6 : v = -1
    · rw [if_pos h6] at h; cases h
    rw [if_neg h6] at h
    by_cases h7 : 16777216 < v
    · rw [if_pos h7] at h; cases h
    rw [if_neg h7] at h
    by_cases h8 : kd f = 4
    · rw [if_pos h8] at h
      by_cases h9 : (bulkR v.toNat (lineR l).2.2).1 = 0
      · rw [if_pos h9] at h; cases h
      · rw [if_neg h9] at h; cases h
    rw [if_neg h8] at h
    injection h with e1 e2
    subst e1
    subst e2
    have hv0 : 0 ≤ v := by
      by_cases hvn : v < -1
      · exact absurd (.inr ⟨by rcases kd_cases f with ⟨_, hk⟩ | ⟨_, hk⟩ | ⟨_, hk⟩ | ⟨_, hk⟩ | ⟨_, hk⟩ | hk <;> omega, hvn⟩) h4
      · omega
    refine ⟨by omega, ?_⟩
    have hf : f = 42 := by rcases kd_cases f with ⟨_, hk⟩ | ⟨_, hk⟩ | ⟨_, hk⟩ | ⟨_, hk⟩ | ⟨h, hk⟩ | hk <;> first | exact h | omega
    rw [hl3, itoa_pos hv0, hf]
    simp [encH, crlf]
theorem decN_back {f : List UInt8 → Int × RT × List UInt8} {d : Nat} (hf : ∀ l t r, f l = (0, t, r) → t.ok = true ∧ t.In ∧ t.depth ≤ d ∧ l = t.enc ++ r) :
    ∀ (n : Nat) (ts : List RT) (l : List UInt8) (ts' : List RT) (r : List UInt8), decN f n ts l = (0, ts', r) →
      ∃ us, ts' = ts ++ us ∧ us.length = n ∧ okL us = true ∧ (∀ t ∈ us, t.In) ∧ depthL us ≤ d ∧ l = encL us ++ r
  | 0, ts, l, ts', r, h => by
    simp only [decN, Prod.mk.injEq, true_and] at h
    obtain ⟨rfl, rfl⟩ := h
    exact ⟨[], by simp, rfl, by simp [okL], fun t ht => (by cases ht), by simp [depthL], by simp [encL]⟩
  | n + 1, ts, l, ts', r, h => by
    simp only [decN] at h
    by_cases h1 : (f l).1 = 0
    · rw [if_pos h1] at h
      obtain ⟨a1, a2, a3, a4⟩ := hf l (f l).2.1 (f l).2.2 (by rw [← h1])
      obtain ⟨us, b1, b2, b3, b4, b5, b6⟩ := decN_back hf n _ _ ts' r h
      refine ⟨(f l).2.1 :: us, by rw [b1]; simp, by simp [b2], by simp [okL, a1, b3], fun t ht => ?_, by simp only [depthL]; omega, ?_⟩
      · rcases List.mem_cons.1 ht with rfl | ht
        · exact a2
        · exact b4 t ht
      · conv => lhs; rw [a4, b6]
        simp [encL]
    · rw [if_neg h1] at h
      simp only [Prod.mk.injEq] at h
      exact absurd h.1 h1
/-- back: what is read is right, and its bytes are those that were read -/
theorem dec_back : ∀ (d : Nat) (l : List UInt8) (t : RT) (r : List UInt8), decR d l = (0, t, r) → t.ok = true ∧ t.In ∧ t.depth ≤ d ∧ l = t.enc ++ r := by
  intro d
  induction d with
  | zero =>
    intro l t r h
    cases hh : hdR l with
    | bad c =>
      rw [decR_bad hh] at h
      simp only [Prod.mk.injEq] at h
      have h2 := h.2.1
      exfalso
      have := h.1
      subst this
      exact hd_bad0 hh
    | one t' r' =>
      rw [decR_one hh] at h
      simp only [Prod.mk.injEq, true_and] at h
      obtain ⟨rfl, rfl⟩ := h
      obtain ⟨a, b, c, e⟩ := hd_one hh
      exact ⟨a, b, by omega, e⟩
    | arr n r' =>
      rw [decR_deep hh] at h
      simp only [Prod.mk.injEq] at h
      exact absurd h.1 (by decide)
  | succ d ih =>
    intro l t r h
    cases hh : hdR l with
    | bad c =>
      rw [decR_bad hh] at h
      simp only [Prod.mk.injEq] at h
      exfalso
      have := h.1
      subst this
      exact hd_bad0 hh
    | one t' r' =>
      rw [decR_one hh] at h
      simp only [Prod.mk.injEq, true_and] at h
      obtain ⟨rfl, rfl⟩ := h
      obtain ⟨a, b, c, e⟩ := hd_one hh
      exact ⟨a, b, by omega, e⟩
    | arr n r' =>
      rw [decR_arr hh] at h
      obtain ⟨hn, hl⟩ := hd_arr hh
      unfold arrR at h
      by_cases h1 : (decN (decR d) n [] r').1 = 0
      · rw [if_pos h1] at h
        simp only [Prod.mk.injEq, true_and] at h
        obtain ⟨rfl, rfl⟩ := h
        obtain ⟨us, b1, b2, b3, b4, b5, b6⟩ := decN_back ih n [] r' _ _ (by rw [← h1])
        rw [List.nil_append] at b1
        rw [b1]
        have e0 : (⟨#[]⟩ : ByteArray).size = 0 := rfl
        refine ⟨by simp [ok, okHead, e0, b3], .mk _ _ _ _ (by unfold In64; omega) b4, by rw [depth_mk, if_pos rfl]; omega, ?_⟩
        rw [hl, enc_mk, b2, List.append_assoc, ← b6]
      · rw [if_neg h1] at h
        simp only [Prod.mk.injEq] at h
        exact absurd h.1 h1
where
  hd_bad0 {l : List UInt8} (h : hdR l = .bad 0) : False := by
    cases l with
    | nil => cases h
    | cons f l =>
      rw [hdR] at h
      unfold numR at h
      repeat' split at h
      all_goals first | (cases h; done) | (injection h with h; omega) | skip
end RT
end Go.Proofs.YtakldjdohgmeiaaDoor
