/- What the reading of a step gives: its cells, its bytes, its reply as a finite tree. Condition: the reading holds. -/
import Derived.Test.YtijjodhkfpjihaaGreatDoorWirH
import Derived.Test.YtijjodhkfpjihaaGreatDoorFrame
import Derived.Lib.SmallJoins
namespace Go.Proofs.YtijjodhkfpjihaaGreatDoor
open Go.ChangeShapes Go.WideShapes
set_option maxRecDepth 20000

namespace Mm
theorem rep_mono (W : World) : ∀ (f : Nat) (cs : List Value), RepOK W f cs → RepOK W (f + 1) cs
  | 0, _, h => h.elim
  | f + 1, cs, h => by
    obtain ⟨k, s, n, a, len, cap, hcs, hl, he⟩ := h
    refine ⟨k, s, n, a, len, cap, hcs, hl, he.imp id ?_⟩
    rintro ⟨b, o, ha, hb, h⟩
    refine ⟨b, o, ha, hb, fun i hi => ?_⟩
    obtain ⟨c0, c1, c2, c3, e0, e1, e2, e3, hr⟩ := h i hi
    exact ⟨c0, c1, c2, c3, e0, e1, e2, e3, rep_mono W f _ hr⟩
theorem rep_mono' (W : World) (f g : Nat) (cs : List Value) (h : RepOK W f cs) : RepOK W (f + g) cs := by
  induction g with
  | zero => exact h
  | succ g ih => exact rep_mono W _ _ ih

theorem cellsRep : Tryz.prog.cellsOf 25 = 4 := by kernel_rfl
theorem cellsStep : Tryz.prog.cellsOf 27 = 7 := by kernel_rfl
theorem cellsI : Tryz.prog.cellsOf 3 = 1 := by kernel_rfl
theorem cellsI64 : Tryz.prog.cellsOf 2 = 1 := by kernel_rfl
theorem cellsS : Tryz.prog.cellsOf 9 = 1 := by kernel_rfl
theorem cellsL : Tryz.prog.cellsOf 23 = 1 := by kernel_rfl
theorem cellsB : Tryz.prog.cellsOf 22 = 1 := by kernel_rfl
theorem cellsU8 : Tryz.prog.cellsOf 5 = 1 := by kernel_rfl
theorem bytesU8 : Tryz.prog.bytesOf 5 = 1 := by kernel_rfl

theorem add0 (a : Addr) : a.add 0 = a := rfl
theorem addN (b o n : Nat) : (⟨b, o, none⟩ : Addr).add n = ⟨b, o + n, none⟩ := by
  unfold Addr.add
  split
  · subst n; rfl
  · rfl
theorem list4 {cs : List Value} (h : cs.length = 4) : ∃ a b c d, cs = [a, b, c, d] := by
  match cs, h with
  | [a, b, c, d], _ => exact ⟨a, b, c, d, rfl⟩

theorem rep_of_trod {H : Type} {enc : TypeId × Value → H} {W : World} : ∀ (fuel : Nat) (cs : List Value) (x : DataW H × List MemPlace),
    DataW.trod enc Tryz.prog W 0 (fun _ => true) true fuel 25 cs = some x → RepOK W fuel cs := by
  intro fuel
  induction fuel using Nat.strongRecOn with
  | _ fuel IH =>
    intro cs x h
    obtain ⟨xs, n, rfl, rfl, hl, hlen, hf⟩ := DataW.trod_struct Tryz.underlying25 h
    rw [cellsRep] at hl
    obtain ⟨a, b, c, d, rfl⟩ := list4 hl
    match xs, hlen with
    | [y0, y1, y2, y3], _ =>
      have h0 := hf 0 _ rfl
      have h1 := hf 1 _ rfl
      have h2 := hf 2 _ rfl
      have h3 := hf 3 _ rfl
      clear hf
      change DataW.trod enc _ W 0 _ true n 3 (List.take (Tryz.prog.cellsOf 3) [a, b, c, d]) = some y0 at h0
      change DataW.trod enc _ W 0 _ true n 9 (List.take (Tryz.prog.cellsOf 9) [b, c, d]) = some y1 at h1
      change DataW.trod enc _ W 0 _ true n 2 (List.take (Tryz.prog.cellsOf 2) [c, d]) = some y2 at h2
      change DataW.trod enc _ W 0 _ true n 23 (List.take (Tryz.prog.cellsOf 23) [d]) = some y3 at h3
      rw [cellsI] at h0
      rw [cellsS] at h1
      rw [cellsI64] at h2
      rw [cellsL] at h3
      obtain ⟨k, e0, _, _⟩ := DataW.trod_int Tryz.underlying3 h0
      obtain ⟨s, e1, _, _⟩ := DataW.trod_string Tryz.underlying9 h1
      obtain ⟨m, e2, _, _⟩ := DataW.trod_int Tryz.underlying2 h2
      obtain rfl := List.cons.inj e0 |>.1
      obtain rfl := List.cons.inj e1 |>.1
      obtain rfl := List.cons.inj e2 |>.1
      rcases DataW.trod_slice Tryz.underlying23 h3 with ⟨e3, _⟩ | ⟨ad, len, cap, elems, rest, q, rfl, e3, hx, _, hlc, hcap, hel, hall, _, _⟩
      · obtain rfl := List.cons.inj e3 |>.1
        exact ⟨k, s, m, none, 0, 0, rfl, Nat.zero_le _, .inl rfl⟩
      · obtain rfl := List.cons.inj e3 |>.1
        refine ⟨k, s, m, some ad, len, cap, rfl, Nat.le_trans hlc (Nat.le_trans hcap (by decide)), ?_⟩
        rcases Nat.eq_zero_or_pos len with hz | hz
        · exact .inl hz
        refine .inr ?_
        have key : ∀ i, i < len → ∃ c0 c1 c2 c3, W.cell? (ad.add (i * 4)) = some c0 ∧ W.cell? ((ad.add (i * 4)).add 1) = some c1 ∧ W.cell? ((ad.add (i * 4)).add 2) = some c2 ∧ W.cell? ((ad.add (i * 4)).add 3) = some c3 ∧ RepOK W q [c0, c1, c2, c3] := by
          intro i hi
          have hz := hall i hi
          rw [cellsRep, List.getElem?_eq_getElem (by omega)] at hz
          obtain ⟨ds, hds, hd⟩ := Option.bind_eq_some_iff.1 hz
          obtain ⟨_, hn, hg⟩ := World.cells?_some hds
          obtain ⟨c0, c1, c2, c3, rfl⟩ := list4 hn
          exact ⟨c0, c1, c2, c3, add0 _ ▸ hg 0 (by decide), hg 1 (by decide), hg 2 (by decide), hg 3 (by decide), IH q (by omega) _ _ hd⟩
        obtain ⟨ab, ao, sp⟩ := ad
        obtain ⟨c0, _, _, _, hc0, _⟩ := key 0 hz
        have hsp := World.cell?_spot hc0
        have hbl := World.block_lt_of_cell? _ _ hc0
        simp only [Addr.add] at hsp hbl
        subst hsp
        refine ⟨ab, ao, rfl, hbl, fun i hi => ?_⟩
        obtain ⟨c0, c1, c2, c3, g0, g1, g2, g3, hr⟩ := key i hi
        rw [addN] at g0 g1 g2 g3
        rw [addN] at g1 g2 g3
        exact ⟨c0, c1, c2, c3, g0, g1, g2, g3, rep_mono W _ _ hr⟩

theorem bytes_of_trod {H : Type} {enc : TypeId × Value → H} {W : World} {fuel : Nat} {v : Value} {x : DataW H × List MemPlace}
    (h : DataW.trod enc Tryz.prog W 0 (fun _ => true) true fuel 22 [v] = some x) :
    ∃ l : List UInt8, BytesV W v l ∧ ((x.1 = .nil ∧ l = []) ∨ ∃ e s, x.1 = .slice e s ∧ e.length = l.length) := by
  rcases DataW.trod_slice Tryz.underlying22 h with ⟨e3, hx⟩ | ⟨ad, len, cap, elems, rest, q, rfl, e3, hx, _, hlc, hcap, hel, hall, _, _⟩
  · obtain rfl := List.cons.inj e3 |>.1
    exact ⟨[], BytesV.nil W, .inl ⟨by rw [hx], rfl⟩⟩
  · obtain rfl := List.cons.inj e3 |>.1
    have key : ∀ i, i < len → ∃ n : Int, W.cell? (ad.add i) = some (.int .u8 n) ∧ 0 ≤ n ∧ n < 256 := by
      intro i hi
      have hz := hall i hi
      rw [cellsU8, List.getElem?_eq_getElem (by omega)] at hz
      obtain ⟨ds, hds, hd⟩ := Option.bind_eq_some_iff.1 hz
      obtain ⟨_, hn, hg⟩ := World.cells?_some hds
      obtain ⟨n, rfl, _, hw⟩ := DataW.trod_int Tryz.underlying5 hd
      refine ⟨n, by rw [← Nat.mul_one i, ← add0 (ad.add (i * 1))]; exact hg 0 (by decide), ?_⟩
      have hw' : IntKind.u8.min ≤ n ∧ n ≤ IntKind.u8.max := by simpa [Lit.wf] using hw
      have e1 : IntKind.u8.min = 0 := by decide
      have e2 : IntKind.u8.max = 255 := by decide
      omega
    obtain ⟨F, hF⟩ : ∃ F : Nat → UInt8, ∀ i, i < len → W.cell? (ad.add i) = some (.int .u8 (F i).toNat) := by
      refine ⟨fun i => if h : i < len then UInt8.ofNat (Classical.choose (key i h)).toNat else 0, fun i hi => ?_⟩
      obtain ⟨h1, h2, h3⟩ := Classical.choose_spec (key i hi)
      rw [h1]
      simp only [hi, dif_pos]
      congr 2
      rw [UInt8.toNat_ofNat']
      omega
    refine ⟨(List.range len).map F, ⟨some ad, cap, by simp, ?_⟩, .inr ⟨_, _, by rw [hx], by simp [hel]⟩⟩
    rcases Nat.eq_zero_or_pos len with h0 | h0
    · exact .inl ⟨by simp [h0], fun h => by cases h⟩
    · obtain ⟨ab, ao, sp⟩ := ad
      have hc0 := hF 0 h0
      have hsp := World.cell?_spot hc0
      have hbl := World.block_lt_of_cell? _ _ hc0
      simp only [Addr.add] at hsp hbl
      subst hsp
      refine .inr ⟨ab, ao, rfl, hbl, fun j hj => ?_⟩
      have := hF j (by simpa using hj)
      rw [addN] at this
      rw [this]
      simp [Pl.at_, List.getElem?_range (show j < len by simpa using hj)]
theorem list7 {cs : List Value} (h : cs.length = 7) : ∃ a b c d e f g, cs = [a, b, c, d, e, f, g] := by
  match cs, h with
  | [a, b, c, d, e, f, g], _ => exact ⟨a, b, c, d, e, f, g, rfl⟩
/-- a step that came in -/
theorem step_of_trod {H : Type} {enc : TypeId × Value → H} {W : World} {v : Value} {d : DataW H} {ps : List MemPlace} {r : Reach} {b0 : Nat} (hval : Value.okWide Tryz.prog W r b0 27 v)
    (hd : DataW.Trod enc Tryz.prog W 0 (fun _ => true) true 27 v d ps) (hsz : (d.weights Tryz.prog 27).all (· ≤ reachBytes) = true) :
    ∃ (z who k n : Int) (bv lv : Value) (tx : ByteArray) (l : List UInt8) (f : Nat), v = .agg #[.int .i64 z, .int .i64 who, bv, .int .i64 k, .string tx, .int .i64 n, lv] ∧ l.length ≤ 140737488351232 ∧ BytesV W bv l ∧ RepOK W f [.int .i64 k, .string tx, .int .i64 n, lv] := by
  obtain ⟨cs, rfl, hcs⟩ := okWide_struct Tryz.underlying27 hval
  obtain ⟨fuel, h⟩ := hd
  change DataW.trod enc _ W 0 _ true fuel 27 cs.toList = some (d, ps) at h
  obtain ⟨y0, y1, y2, y3, q, hx, hl, h0, h1, h2, h3⟩ := Joins.trod_struct4 Tryz.underlying27 h
  rw [cellsStep] at hl
  obtain ⟨c0, c1, c2, c3, c4, c5, c6, hl7⟩ := list7 hl
  obtain rfl : cs = #[c0, c1, c2, c3, c4, c5, c6] := Array.toList_inj.1 hl7
  change DataW.trod enc _ W 0 _ true q 3 (List.take (Tryz.prog.cellsOf 3) [c0, c1, c2, c3, c4, c5, c6]) = some y0 at h0
  change DataW.trod enc _ W 0 _ true q 3 (List.take (Tryz.prog.cellsOf 3) [c1, c2, c3, c4, c5, c6]) = some y1 at h1
  change DataW.trod enc _ W 0 _ true q 22 (List.take (Tryz.prog.cellsOf 22) [c2, c3, c4, c5, c6]) = some y2 at h2
  change DataW.trod enc _ W 0 _ true q 25 (List.take (Tryz.prog.cellsOf 25) [c3, c4, c5, c6]) = some y3 at h3
  rw [cellsI] at h0 h1
  rw [cellsB] at h2
  rw [cellsRep] at h3
  obtain ⟨z, e0, _, _⟩ := DataW.trod_int Tryz.underlying3 h0
  obtain ⟨who, e1, _, _⟩ := DataW.trod_int Tryz.underlying3 h1
  obtain rfl := List.cons.inj e0 |>.1
  obtain rfl := List.cons.inj e1 |>.1
  obtain ⟨l, hb, hlen⟩ := bytes_of_trod h2
  have hr := rep_of_trod q _ _ h3
  obtain ⟨k, s, n, a, len, cap, he, hr'⟩ : ∃ k s n a len cap, [c3, c4, c5, c6] = [.int .i64 k, .string s, .int .i64 n, .slice a len cap] ∧ RepOK W q [c3, c4, c5, c6] := by
    cases q with
    | zero => exact hr.elim
    | succ q =>
      obtain ⟨k, s, n, a, len, cap, he, _⟩ := id hr
      exact ⟨k, s, n, a, len, cap, he, hr⟩
  simp only [List.cons.injEq, and_true] at he
  obtain ⟨rfl, rfl, rfl, rfl⟩ := he
  refine ⟨z, who, k, n, c2, _, s, l, q, rfl, ?_, hb, hr'⟩
  rcases hlen with ⟨_, rfl⟩ | ⟨e, sp, he, hel⟩
  · decide
  · have hd : d = .agg [y0.1, y1.1, .slice e sp, y3.1] := by rw [← he]; exact (Prod.mk.inj hx).1
    have hm : (e.length + sp.length) * Tryz.prog.bytesOf 5 ∈ d.weights Tryz.prog 27 := by
      rw [hd]
      simp [DataW.weights, DataW.weightsEach, Tryz.underlying27, Tryz.underlying22]
    have := List.all_eq_true.1 hsz _ hm
    rw [bytesU8] at this
    simp only [decide_eq_true_eq, Nat.mul_one] at this
    have hrb : reachBytes = 140737488351232 := by decide
    omega
end Mm
end Go.Proofs.YtijjodhkfpjihaaGreatDoor
