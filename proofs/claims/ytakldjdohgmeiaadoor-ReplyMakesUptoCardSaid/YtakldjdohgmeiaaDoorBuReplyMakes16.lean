/- What arguments of the types []byte, []string lie like in memory, and how great they are under the form's bound; utf8's tables and bytealg.MaxLen out of the frame. Conditions stand in each law. A list of texts that came in: the row, and the form of its value. Conditions stand in the law. Conditions stand in each law. -/
import Derived.Test.YtakldjdohgmeiaaDoorBuReplyMakes15
import Derived.Test.YtakldjdohgmeiaaDoorBuReplyMakes7
import Derived.Test.YtakldjdohgmeiaaDoorBuReplyMakes12
import Derived.Deep.Slices
namespace Go.Proofs.YtakldjdohgmeiaaDoor.Arg
open Go.ChangeShapes Go.WideShapes Go.ChangeAt Go.RowKit
open Mm Pl
set_option maxRecDepth 20000

def sumL (ws : List (List UInt8)) : Nat := (ws.map List.length).sum
theorem cellsU8 : Tryd.prog.cellsOf 5 = 1 := by kernel_rfl
theorem addN (b o n : Nat) : (⟨b, o, none⟩ : Addr).add n = ⟨b, o + n, none⟩ := by
  unfold Addr.add; split <;> simp_all
/-- bytes that came in -/
theorem bytes {H : Type} {enc : TypeId × Value → H} {W : World} {fuel : Nat} {v : Value} {x : DataW H × List MemPlace}
    (h : DataW.trod enc Tryd.prog W 0 (fun _ => true) true fuel 24 [v] = some x) : ∃ l : List UInt8, Bs W v l ∧ l.length ≤ 9223372036854775807 := by
  rcases Go.Deep.open_slice1 Tryd.underlying24 cellsU8 h with ⟨e3, _⟩ | ⟨ad, len, cap, m, n, V, D, Pq, e3, _, hlc, hcap, hm, _, hx⟩
  · obtain rfl := List.cons.inj e3 |>.1
    exact ⟨[], ⟨none, 0, rfl, Nat.le_refl _, fun _ => rfl, fun h => absurd h (by simp)⟩, by simp⟩
  · obtain rfl := List.cons.inj e3 |>.1
    have hlm : len ≤ m := by rw [hm]; split <;> omega
    have key : ∀ i, i < len → ∃ c : UInt8, W.cell? (ad.add i) = some (.int .u8 (c.toNat : Int)) := by
      intro i hi
      obtain ⟨hc, hd⟩ := hx i (by omega)
      obtain ⟨k, hk, _, hw⟩ := DataW.trod_int Tryd.underlying5 hd
      obtain e := List.cons.inj hk |>.1
      have hw' : IntKind.u8.min ≤ k ∧ k ≤ IntKind.u8.max := by simpa [Lit.wf] using hw
      have e1 : IntKind.u8.min = 0 := by decide
      have e2 : IntKind.u8.max = 255 := by decide
      refine ⟨UInt8.ofNat k.toNat, ?_⟩
      rw [hc, e]
      congr 2
      rw [UInt8.toNat_ofNat']
      omega
    obtain ⟨F, hF⟩ : ∃ F : Nat → UInt8, ∀ i, i < len → W.cell? (ad.add i) = some (.int .u8 (F i).toNat) := by
      refine ⟨fun i => if h : i < len then Classical.choose (key i h) else 0, fun i hi => ?_⟩
      rw [Classical.choose_spec (key i hi)]
      simp only [hi, dif_pos]
    refine ⟨(List.range len).map F, ⟨some ad, cap, by simp, by simpa using hlc, fun e => (by cases e), fun h0 => ?_⟩, by simp; unfold maxLen at hcap; omega⟩
    have h0' : 0 < len := by simpa using h0
    obtain ⟨ab, ao, sp⟩ := ad
    have hsp := World.cell?_spot (hF 0 h0')
    simp only [Addr.add] at hsp
    subst hsp
    refine ⟨ab, ao, rfl, fun j hj => ?_⟩
    have hj' : j < len := by simpa using hj
    have := hF j hj'
    rw [addN] at this
    rw [this]
    simp [Pl.at_, List.getElem?_range hj']
theorem bulk_pos {H : Type} (d : DataW H) : 0 < Rows.uptoBulk d := by
  cases d with
  | lit l => cases l <;> simp [Rows.uptoBulk]
  | _ => simp [Rows.uptoBulk]
theorem bulk_len {H : Type} : ∀ l : List (DataW H), l.length ≤ Rows.uptoBulkAll l
  | [] => by simp [Rows.uptoBulkAll]
  | d :: l => by
    have h1 := bulk_len l
    have h2 := bulk_pos d
    simp only [Rows.uptoBulkAll, List.length_cons]
    omega
theorem bulk_mem {H : Type} : ∀ {l : List (DataW H)} {d : DataW H}, d ∈ l → Rows.uptoBulk d ≤ Rows.uptoBulkAll l
  | e :: l, d, h => by
    simp only [Rows.uptoBulkAll]
    rcases List.mem_cons.1 h with rfl | h
    · omega
    · have := bulk_mem h
      omega
theorem bulk_texts {H : Type} : ∀ l : List (List UInt8), Rows.uptoBulkAll (l.map fun s => (DataW.lit (.string s) : DataW H)) = sumL l + l.length
  | [] => by simp [Rows.uptoBulkAll, sumL]
  | s :: l => by
    have := bulk_texts (H := H) l
    simp only [List.map_cons, Rows.uptoBulkAll, Rows.uptoBulk, sumL, List.sum_cons, List.length_cons] at this ⊢
    omega
/-- bytes that came in, and how many -/
theorem bytesU {H : Type} {enc : TypeId × Value → H} {W : World} {fuel : Nat} {v : Value} {x : DataW H × List MemPlace}
    (h : DataW.trod enc Tryd.prog W 0 (fun _ => true) true fuel 24 [v] = some x) : ∃ l : List UInt8, Bs W v l ∧ l.length ≤ Rows.uptoBulk x.1 := by
  obtain ⟨l, hl, _⟩ := bytes h
  refine ⟨l, hl, ?_⟩
  obtain ⟨a, c, e, _⟩ := hl
  rcases Go.Deep.open_slice1 Tryd.underlying24 cellsU8 h with ⟨e3, _⟩ | ⟨ad, len, cap, m, n, V, D, Pq, e3, _, _, _, _, hxx, _⟩
  · obtain e4 := List.cons.inj e3 |>.1
    rw [e] at e4
    injection e4 with _ e4 _
    omega
  · obtain e4 := List.cons.inj e3 |>.1
    rw [e] at e4
    injection e4 with _ e4 _
    rw [hxx]
    simp only [Rows.uptoBulk]
    have := bulk_len ((List.range len).map D)
    rw [List.length_map, List.length_range] at this
    omega
/-- a row of texts that came in -/
theorem texts {H : Type} {enc : TypeId × Value → H} {W : World} {fuel : Nat} {v : Value} {x : DataW H × List MemPlace}
    (h : DataW.trod enc Tryd.prog W 0 (fun _ => true) true fuel 22 [v] = some x) : ∃ l : List (List UInt8), RowT W v l ∧ l.length + sumL l ≤ Rows.uptoBulk x.1 := by
  rcases Go.Deep.open_slice1 Tryd.underlying22 Fr.cellsStr h with ⟨e3, _⟩ | ⟨ad, len, cap, m, n, V, D, Pq, e3, _, hlc, hcap, hm, hxx, hx⟩
  · obtain rfl := List.cons.inj e3 |>.1
    exact ⟨[], ⟨none, 0, rfl, Nat.le_refl _, fun h => absurd h (by simp)⟩, by simp [sumL]⟩
  · obtain rfl := List.cons.inj e3 |>.1
    have hlm : len ≤ m := by rw [hm]; split <;> omega
    have key : ∀ i, i < len → ∃ s : List UInt8, W.cell? (ad.add i) = some (.string (B s)) ∧ D i = .lit (.string s) := by
      intro i hi
      obtain ⟨hc, hd⟩ := hx i (by omega)
      obtain ⟨s, hk, hd2, _⟩ := DataW.trod_string Tryd.underlying9 hd
      obtain e := List.cons.inj hk |>.1
      refine ⟨L s, by rw [hc, e, B_L], ?_⟩
      injection hd2
    obtain ⟨F, hF⟩ : ∃ F : Nat → List UInt8, ∀ i, i < len → W.cell? (ad.add i) = some (.string (B (F i))) ∧ D i = .lit (.string (F i)) := by
      refine ⟨fun i => if h : i < len then Classical.choose (key i h) else [], fun i hi => ?_⟩
      have := Classical.choose_spec (key i hi)
      simp only [hi, dif_pos]
      exact this
    refine ⟨(List.range len).map F, ⟨some ad, cap, by simp, by simpa using hlc, fun h0 => ?_⟩, ?_⟩
    · have h0' : 0 < len := by simpa using h0
      obtain ⟨ab, ao, sp⟩ := ad
      have hsp := World.cell?_spot (hF 0 h0').1
      simp only [Addr.add] at hsp
      subst hsp
      refine ⟨ab, ao, rfl, fun i s hs => ?_⟩
      have hi : i < len := by
        have := (List.getElem?_eq_some_iff.1 hs).1
        simpa using this
      rw [List.getElem?_map, List.getElem?_range hi] at hs
      injection hs with hs
      subst hs
      have := (hF i hi).1
      rw [addN] at this
      exact this
    · rw [hxx]
      simp only [Rows.uptoBulk]
      have e : (List.range len).map D = ((List.range len).map F).map fun s => (DataW.lit (.string s) : DataW H) := by
        rw [List.map_map]
        refine List.map_congr_left fun i hi => ?_
        exact (hF i (by simpa using hi)).2
      rw [e, bulk_texts]
      omega
end Go.Proofs.YtakldjdohgmeiaaDoor.Arg
namespace Go.Proofs.YtakldjdohgmeiaaDoor.Fr
open Go.Shelf Go.Lib
set_option maxRecDepth 100000
theorem u8 {W : World} {r r' : List (String × DataW Unit)} (h1 : laidMet Tryd.prog (("unicode/utf8.acceptRanges", Rows.laid_unicode_utf8_acceptRanges) :: r) W) (h2 : laidMet Tryd.prog (("unicode/utf8.first", Rows.laid_unicode_utf8_first) :: r') W) : Mm.U8 W := by
  refine Mm.u8_of (utf8Tabs_of_readsT u8types u8extra ?_ ?_)
  · have h := laidMet.reads h2 (List.mem_cons_self)
    have e : Rows.laid_unicode_utf8_first = firstData := by kernel_rfl
    rw [e] at h
    exact h
  · have h := laidMet.reads h1 (List.mem_cons_self)
    have e : Rows.laid_unicode_utf8_acceptRanges = acceptData := by kernel_rfl
    rw [e] at h
    exact h
theorem maxI {W : World} (h : W.ShapedOpen Tryd.prog) : Mm.MaxI W := by
  refine Mm.maxI_of ?_
  obtain ⟨cs, hh, hs, hr⟩ := h.1 6 #[.int .i64 0] 3 (of_decide_eq_true (by kernel_rfl)) (by kernel_rfl)
  obtain ⟨ts, hts, _, hall⟩ := hr (by kernel_rfl)
  rw [show Tryd.prog.cellTypes Tryd.prog.depth 3 = some [3] by kernel_rfl] at hts
  cases hts
  have h1 : 0 < cs.size := by rw [hs]; decide
  have h0 : cs[0]? = some cs[0] := Array.getElem?_eq_some_iff.2 ⟨h1, rfl⟩
  obtain ⟨u, hu', hok⟩ := hall 0 cs[0] h0
  have : u = 3 := by
    injection hu' with hu'
    exact hu'.symm
  subst this
  have hcell : W.cell? ⟨6, 0, none⟩ = some cs[0] := by
    unfold World.cell?
    rw [hh]
    exact h0
  rw [hcell]
  unfold Cell.ok at hok
  rw [Tryd.underlying3] at hok
  generalize cs[0] = v at hok ⊢
  cases v with
  | int kd n =>
    by_cases hk : kd = .i64
    · subst hk
      exact ⟨n, rfl⟩
    · exfalso
      revert hok
      simp
      intro h
      exact absurd h hk
  | _ => simp at hok
end Go.Proofs.YtakldjdohgmeiaaDoor.Fr

namespace Go.Proofs.YtakldjdohgmeiaaDoor.Arg
open Go.ChangeShapes Go.WideShapes Go.ChangeAt Go.RowKit
open Mm Pl
set_option maxRecDepth 20000
theorem textsF {H : Type} {enc : TypeId × Value → H} {W : World} {fuel : Nat} {v : Value} {x : DataW H × List MemPlace}
    (h : DataW.trod enc Tryd.prog W 0 (fun _ => true) true fuel 22 [v] = some x) : ∃ l : List (List UInt8), RowT W v l ∧ l.length + sumL l ≤ Rows.uptoBulk x.1 ∧ (v = .slice none 0 0 ∨ ∃ ad k c, v = .slice (some ad) k c) := by
  obtain ⟨l, h1, h2⟩ := texts h
  refine ⟨l, h1, h2, ?_⟩
  rcases Go.Deep.open_slice1 Tryd.underlying22 Fr.cellsStr h with ⟨e3, _⟩ | ⟨ad, len, cap, m, n, V, D, Pq, e3, _⟩
  · exact .inl (List.cons.inj e3).1
  · exact .inr ⟨ad, len, cap, (List.cons.inj e3).1⟩
end Go.Proofs.YtakldjdohgmeiaaDoor.Arg
