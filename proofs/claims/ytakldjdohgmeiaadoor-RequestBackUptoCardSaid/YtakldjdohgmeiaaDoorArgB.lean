/- What arguments of the types [][]string and []byte lie like in memory, and how great they are under the form's bound. Conditions stand in each law. -/
import Derived.Test.YtakldjdohgmeiaaDoorArg
import Derived.Test.YtakldjdohgmeiaaDoorBackB
namespace Go.Proofs.YtakldjdohgmeiaaDoor.Arg
open Go.ChangeShapes Go.WideShapes Go.ChangeAt Go.RowKit
open Mm Pl
set_option maxRecDepth 20000

theorem cellsRS : Tryd.prog.cellsOf 22 = 1 := by kernel_rfl
theorem bulk_pos {H : Type} (d : DataW H) : 0 < Rows.uptoBulk d := by
  cases d with
  | lit l => cases l <;> simp [Rows.uptoBulk]
  | _ => simp [Rows.uptoBulk]
theorem bulk_len {H : Type} : ∀ l : List (DataW H), l.length ≤ Rows.uptoBulkAll l
  | [] => by simp [Rows.uptoBulkAll]
  | d :: l => by
    have h1 := bulk_len l
    have h2 := bulk_pos d
    simp only [Rows.uptoBulkAll, List.length_cons]
    omega
theorem bulk_mem {H : Type} : ∀ {l : List (DataW H)} {d : DataW H}, d ∈ l → Rows.uptoBulk d ≤ Rows.uptoBulkAll l
  | e :: l, d, h => by
    simp only [Rows.uptoBulkAll]
    rcases List.mem_cons.1 h with rfl | h
    · omega
    · have := bulk_mem h
      omega
theorem bulk_texts {H : Type} : ∀ l : List (List UInt8), Rows.uptoBulkAll (l.map fun s => (DataW.lit (.string s) : DataW H)) = sumL l + l.length
  | [] => by simp [Rows.uptoBulkAll, sumL]
  | s :: l => by
    have := bulk_texts (H := H) l
    simp only [List.map_cons, Rows.uptoBulkAll, Rows.uptoBulk, sumL, List.sum_cons, List.length_cons] at this ⊢
    omega
/-- bytes that came in, and how many -/
theorem bytesU {H : Type} {enc : TypeId × Value → H} {W : World} {fuel : Nat} {v : Value} {x : DataW H × List MemPlace}
    (h : DataW.trod enc Tryd.prog W 0 (fun _ => true) true fuel 24 [v] = some x) : ∃ l : List UInt8, Bs W v l ∧ l.length ≤ Rows.uptoBulk x.1 := by
  obtain ⟨l, hl, _⟩ := bytes h
  refine ⟨l, hl, ?_⟩
  obtain ⟨a, c, e, _⟩ := hl
  rcases Go.Deep.open_slice1 Tryd.underlying24 cellsU8 h with ⟨e3, _⟩ | ⟨ad, len, cap, m, n, V, D, Pq, e3, _, _, _, _, hxx, _⟩
  · obtain e4 := List.cons.inj e3 |>.1
    rw [e] at e4
    injection e4 with _ e4 _
    omega
  · obtain e4 := List.cons.inj e3 |>.1
    rw [e] at e4
    injection e4 with _ e4 _
    rw [hxx]
    simp only [Rows.uptoBulk]
    have := bulk_len ((List.range len).map D)
    rw [List.length_map, List.length_range] at this
    omega
/-- a row of texts that came in -/
theorem texts {H : Type} {enc : TypeId × Value → H} {W : World} {fuel : Nat} {v : Value} {x : DataW H × List MemPlace}
    (h : DataW.trod enc Tryd.prog W 0 (fun _ => true) true fuel 22 [v] = some x) : ∃ l : List (List UInt8), RowT W v l ∧ l.length + sumL l ≤ Rows.uptoBulk x.1 := by
  rcases Go.Deep.open_slice1 Tryd.underlying22 Fr.cellsStr h with ⟨e3, _⟩ | ⟨ad, len, cap, m, n, V, D, Pq, e3, _, hlc, hcap, hm, hxx, hx⟩
  · obtain rfl := List.cons.inj e3 |>.1
    exact ⟨[], ⟨none, 0, rfl, Nat.le_refl _, fun h => absurd h (by simp)⟩, by simp [sumL]⟩
  · obtain rfl := List.cons.inj e3 |>.1
    have hlm : len ≤ m := by rw [hm]; split <;> omega
    have key : ∀ i, i < len → ∃ s : List UInt8, W.cell? (ad.add i) = some (.string (B s)) ∧ D i = .lit (.string s) := by
      intro i hi
      obtain ⟨hc, hd⟩ := hx i (by omega)
      obtain ⟨s, hk, hd2, _⟩ := DataW.trod_string Tryd.underlying9 hd
      obtain e := List.cons.inj hk |>.1
      refine ⟨L s, by rw [hc, e, B_L], ?_⟩
      injection hd2
    obtain ⟨F, hF⟩ : ∃ F : Nat → List UInt8, ∀ i, i < len → W.cell? (ad.add i) = some (.string (B (F i))) ∧ D i = .lit (.string (F i)) := by
      refine ⟨fun i => if h : i < len then Classical.choose (key i h) else [], fun i hi => ?_⟩
      have := Classical.choose_spec (key i hi)
      simp only [hi, dif_pos]
      exact this
    refine ⟨(List.range len).map F, ⟨some ad, cap, by simp, by simpa using hlc, fun h0 => ?_⟩, ?_⟩
    · have h0' : 0 < len := by simpa using h0
      obtain ⟨ab, ao, sp⟩ := ad
      have hsp := World.cell?_spot (hF 0 h0').1
      simp only [Addr.add] at hsp
      subst hsp
      refine ⟨ab, ao, rfl, fun i s hs => ?_⟩
      have hi : i < len := by
        have := (List.getElem?_eq_some_iff.1 hs).1
        simpa using this
      rw [List.getElem?_map, List.getElem?_range hi] at hs
      injection hs with hs
      subst hs
      have := (hF i hi).1
      rw [addN] at this
      exact this
    · rw [hxx]
      simp only [Rows.uptoBulk]
      have e : (List.range len).map D = ((List.range len).map F).map fun s => (DataW.lit (.string s) : DataW H) := by
        rw [List.map_map]
        refine List.map_congr_left fun i hi => ?_
        exact (hF i (by simpa using hi)).2
      rw [e, bulk_texts]
      omega
/-- commands that came in -/
theorem commandsU {H : Type} {enc : TypeId × Value → H} {W : World} {fuel : Nat} {v : Value} {x : DataW H × List MemPlace}
    (h : DataW.trod enc Tryd.prog W 0 (fun _ => true) true fuel 65 [v] = some x) : ∃ cs : List (List (List UInt8)), RowC W v cs ∧ cs.length ≤ Rows.uptoBulk x.1 ∧ ∀ l ∈ cs, l.length ≤ Rows.uptoBulk x.1 ∧ sumL l ≤ Rows.uptoBulk x.1 := by
  rcases Go.Deep.open_slice1 Tryd.underlying65 cellsRS h with ⟨e3, _⟩ | ⟨ad, len, cap, m, n, V, D, Pq, e3, _, hlc, hcap, hm, hxx, hx⟩
  · obtain rfl := List.cons.inj e3 |>.1
    exact ⟨[], ⟨none, 0, rfl, Nat.le_refl _, fun h => absurd h (by simp)⟩, by simp, fun l h => by cases h⟩
  · obtain rfl := List.cons.inj e3 |>.1
    have hlm : len ≤ m := by rw [hm]; split <;> omega
    have key : ∀ i, i < len → ∃ l : List (List UInt8), l.length + sumL l ≤ Rows.uptoBulk (D i) ∧ ∃ vb, W.cell? (ad.add i) = some vb ∧ RowT W vb l := by
      intro i hi
      obtain ⟨hc, hd⟩ := hx i (by omega)
      obtain ⟨l, h1, h2⟩ := texts hd
      exact ⟨l, h2, _, hc, h1⟩
    obtain ⟨F, hF⟩ : ∃ F : Nat → List (List UInt8), ∀ i, i < len → (F i).length + sumL (F i) ≤ Rows.uptoBulk (D i) ∧ ∃ vb, W.cell? (ad.add i) = some vb ∧ RowT W vb (F i) := by
      refine ⟨fun i => if h : i < len then Classical.choose (key i h) else [], fun i hi => ?_⟩
      have := Classical.choose_spec (key i hi)
      simp only [hi, dif_pos]
      exact this
    have hbl := bulk_len ((List.range len).map D)
    rw [List.length_map, List.length_range] at hbl
    refine ⟨(List.range len).map F, ⟨some ad, cap, by simp, by simpa using hlc, fun h0 => ?_⟩, ?_, fun l hl => ?_⟩
    · have h0' : 0 < len := by simpa using h0
      obtain ⟨ab, ao, sp⟩ := ad
      obtain ⟨_, vb0, hc0, _⟩ := hF 0 h0'
      have hsp := World.cell?_spot hc0
      simp only [Addr.add] at hsp
      subst hsp
      refine ⟨ab, ao, rfl, fun i l hl => ?_⟩
      have hi : i < len := by
        have := (List.getElem?_eq_some_iff.1 hl).1
        simpa using this
      rw [List.getElem?_map, List.getElem?_range hi] at hl
      injection hl with hl
      subst hl
      obtain ⟨_, vb, k2, k3⟩ := hF i hi
      rw [addN] at k2
      exact ⟨vb, k2, k3⟩
    · rw [hxx]
      simp only [Rows.uptoBulk, List.length_map, List.length_range]
      omega
    · obtain ⟨i, hi, rfl⟩ := List.mem_map.1 hl
      have hi' : i < len := by simpa using hi
      have h1 := (hF i hi').1
      have h2 := bulk_mem (List.mem_map_of_mem (f := D) hi)
      rw [hxx]
      simp only [Rows.uptoBulk]
      omega
end Go.Proofs.YtakldjdohgmeiaaDoor.Arg
