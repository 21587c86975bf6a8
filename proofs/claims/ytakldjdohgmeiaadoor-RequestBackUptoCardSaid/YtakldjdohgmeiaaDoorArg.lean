/- What arguments of the types [][]byte, [][]string, []byte lie like in memory; the six errors of requests. Conditions stand in each law. -/
import Derived.Test.YtakldjdohgmeiaaDoorDoor
import Derived.Test.YtakldjdohgmeiaaDoorParB
import Derived.Test.YtakldjdohgmeiaaDoorQuoC
import Derived.Deep.Slices
namespace Go.Proofs.YtakldjdohgmeiaaDoor.Arg
open Go.ChangeShapes Go.WideShapes Go.ChangeAt Go.RowKit
open Mm Pl
set_option maxRecDepth 20000

theorem cellsB : Tryd.prog.cellsOf 24 = 1 := by kernel_rfl
theorem cellsU8 : Tryd.prog.cellsOf 5 = 1 := by kernel_rfl
theorem addN (b o n : Nat) : (⟨b, o, none⟩ : Addr).add n = ⟨b, o + n, none⟩ := by
  unfold Addr.add; split <;> simp_all
/-- bytes that came in -/
theorem bytes {H : Type} {enc : TypeId × Value → H} {W : World} {fuel : Nat} {v : Value} {x : DataW H × List MemPlace}
    (h : DataW.trod enc Tryd.prog W 0 (fun _ => true) true fuel 24 [v] = some x) : ∃ l : List UInt8, Bs W v l ∧ l.length ≤ 9223372036854775807 := by
  rcases Go.Deep.open_slice1 Tryd.underlying24 cellsU8 h with ⟨e3, _⟩ | ⟨ad, len, cap, m, n, V, D, Pq, e3, _, hlc, hcap, hm, _, hx⟩
  · obtain rfl := List.cons.inj e3 |>.1
    exact ⟨[], ⟨none, 0, rfl, Nat.le_refl _, fun _ => rfl, fun h => absurd h (by simp)⟩, by simp⟩
  · obtain rfl := List.cons.inj e3 |>.1
    have hlm : len ≤ m := by rw [hm]; split <;> omega
    have key : ∀ i, i < len → ∃ c : UInt8, W.cell? (ad.add i) = some (.int .u8 (c.toNat : Int)) := by
      intro i hi
      obtain ⟨hc, hd⟩ := hx i (by omega)
      obtain ⟨k, hk, _, hw⟩ := DataW.trod_int Tryd.underlying5 hd
      obtain e := List.cons.inj hk |>.1
      have hw' : IntKind.u8.min ≤ k ∧ k ≤ IntKind.u8.max := by simpa [Lit.wf] using hw
      have e1 : IntKind.u8.min = 0 := by decide
      have e2 : IntKind.u8.max = 255 := by decide
      refine ⟨UInt8.ofNat k.toNat, ?_⟩
      rw [hc, e]
      congr 2
      rw [UInt8.toNat_ofNat']
      omega
    obtain ⟨F, hF⟩ : ∃ F : Nat → UInt8, ∀ i, i < len → W.cell? (ad.add i) = some (.int .u8 (F i).toNat) := by
      refine ⟨fun i => if h : i < len then Classical.choose (key i h) else 0, fun i hi => ?_⟩
      rw [Classical.choose_spec (key i hi)]
      simp only [hi, dif_pos]
    refine ⟨(List.range len).map F, ⟨some ad, cap, by simp, by simpa using hlc, fun e => (by cases e), fun h0 => ?_⟩, by simp; unfold maxLen at hcap; omega⟩
    have h0' : 0 < len := by simpa using h0
    obtain ⟨ab, ao, sp⟩ := ad
    have hsp := World.cell?_spot (hF 0 h0')
    simp only [Addr.add] at hsp
    subst hsp
    refine ⟨ab, ao, rfl, fun j hj => ?_⟩
    have hj' : j < len := by simpa using hj
    have := hF j hj'
    rw [addN] at this
    rw [this]
    simp [Pl.at_, List.getElem?_range hj']
/-- a row of bytes that came in -/
theorem words {H : Type} {enc : TypeId × Value → H} {W : World} {fuel : Nat} {v : Value} {x : DataW H × List MemPlace}
    (h : DataW.trod enc Tryd.prog W 0 (fun _ => true) true fuel 50 [v] = some x) : ∃ ws : List (List UInt8), WordsV W v ws := by
  rcases Go.Deep.open_slice1 Tryd.underlying50 cellsB h with ⟨e3, _⟩ | ⟨ad, len, cap, m, n, V, D, Pq, e3, _, hlc, hcap, hm, _, hx⟩
  · obtain rfl := List.cons.inj e3 |>.1
    exact ⟨[], none, 0, rfl, Nat.le_refl _, by simp, fun h => absurd h (by simp)⟩
  · obtain rfl := List.cons.inj e3 |>.1
    have hlm : len ≤ m := by rw [hm]; split <;> omega
    have key : ∀ i, i < len → ∃ l : List UInt8, l.length ≤ 9223372036854775807 ∧ ∃ vb, W.cell? (ad.add i) = some vb ∧ Bs W vb l := by
      intro i hi
      obtain ⟨hc, hd⟩ := hx i (by omega)
      obtain ⟨l, h1, h2⟩ := bytes hd
      exact ⟨l, h2, _, hc, h1⟩
    obtain ⟨F, hF⟩ : ∃ F : Nat → List UInt8, ∀ i, i < len → (F i).length ≤ 9223372036854775807 ∧ ∃ vb, W.cell? (ad.add i) = some vb ∧ Bs W vb (F i) := by
      refine ⟨fun i => if h : i < len then Classical.choose (key i h) else [], fun i hi => ?_⟩
      have := Classical.choose_spec (key i hi)
      simp only [hi, dif_pos]
      exact this
    refine ⟨(List.range len).map F, some ad, cap, by simp, by simpa using hlc, by simp; unfold maxLen at hcap; omega, fun h0 => ?_⟩
    have h0' : 0 < len := by simpa using h0
    obtain ⟨ab, ao, sp⟩ := ad
    obtain ⟨_, vb0, hc0, _⟩ := hF 0 h0'
    have hsp := World.cell?_spot hc0
    simp only [Addr.add] at hsp
    subst hsp
    refine ⟨ab, ao, rfl, fun i l hl => ?_⟩
    have hi : i < len := by
      have := (List.getElem?_eq_some_iff.1 hl).1
      simpa using this
    rw [List.getElem?_map, List.getElem?_range hi] at hl
    injection hl with hl
    subst hl
    obtain ⟨k1, vb, k2, k3⟩ := hF i hi
    rw [addN] at k2
    exact ⟨k1, vb, k2, k3⟩
theorem gCount : Tryd.prog.globalNamed "pantry/request.ErrCount" = some 1 := by kernel_rfl
theorem gCountT : (Tryd.prog.globals[1]?).map (·.type) = some 53 := by kernel_rfl
theorem gLength : Tryd.prog.globalNamed "pantry/request.ErrLength" = some 5 := by kernel_rfl
theorem gLengthT : (Tryd.prog.globals[5]?).map (·.type) = some 53 := by kernel_rfl
theorem gMark : Tryd.prog.globalNamed "pantry/request.ErrMark" = some 4 := by kernel_rfl
theorem gMarkT : (Tryd.prog.globals[4]?).map (·.type) = some 53 := by kernel_rfl
theorem gEnd : Tryd.prog.globalNamed "pantry/request.ErrEnd" = some 3 := by kernel_rfl
theorem gEndT : (Tryd.prog.globals[3]?).map (·.type) = some 53 := by kernel_rfl
theorem gQuote : Tryd.prog.globalNamed "pantry/request.ErrQuote" = some 2 := by kernel_rfl
theorem gQuoteT : (Tryd.prog.globals[2]?).map (·.type) = some 53 := by kernel_rfl
theorem gTooBig : Tryd.prog.globalNamed "pantry/request.ErrTooBig" = some 0 := by kernel_rfl
theorem gTooBigT : (Tryd.prog.globals[0]?).map (·.type) = some 53 := by kernel_rfl
/-- the six errors of requests, one behind the other on the list -/
theorem rerr {W : World} {rest : List (String × DataW Unit)} (h : laidMet Tryd.prog (("pantry/request.ErrCount", Rows.laid_pantry_request_ErrCount) :: ("pantry/request.ErrLength", Rows.laid_pantry_request_ErrLength) :: ("pantry/request.ErrMark", Rows.laid_pantry_request_ErrMark) ::
    ("pantry/request.ErrEnd", Rows.laid_pantry_request_ErrEnd) :: ("pantry/request.ErrQuote", Rows.laid_pantry_request_ErrQuote) :: ("pantry/request.ErrTooBig", Rows.laid_pantry_request_ErrTooBig) :: rest) W) : Mm.RErr W := by
  obtain ⟨a1, s1, v1, _⟩ := laid_sentinel h gCount gCountT Tryd.underlying53 Fr.rowErr Tryd.underlying177 Tryd.underlying179 rfl rfl Tryd.underlying9 Fr.cellsErr Fr.cellsStr
  obtain ⟨a2, s2, v2, _⟩ := laid_sentinel h.tail gLength gLengthT Tryd.underlying53 Fr.rowErr Tryd.underlying177 Tryd.underlying179 rfl rfl Tryd.underlying9 Fr.cellsErr Fr.cellsStr
  obtain ⟨a3, s3, v3, _⟩ := laid_sentinel h.tail.tail gMark gMarkT Tryd.underlying53 Fr.rowErr Tryd.underlying177 Tryd.underlying179 rfl rfl Tryd.underlying9 Fr.cellsErr Fr.cellsStr
  obtain ⟨a4, s4, v4, _⟩ := laid_sentinel h.tail.tail.tail gEnd gEndT Tryd.underlying53 Fr.rowErr Tryd.underlying177 Tryd.underlying179 rfl rfl Tryd.underlying9 Fr.cellsErr Fr.cellsStr
  obtain ⟨a5, s5, v5, _⟩ := laid_sentinel h.tail.tail.tail.tail gQuote gQuoteT Tryd.underlying53 Fr.rowErr Tryd.underlying177 Tryd.underlying179 rfl rfl Tryd.underlying9 Fr.cellsErr Fr.cellsStr
  obtain ⟨a6, s6, v6, _⟩ := laid_sentinel h.tail.tail.tail.tail.tail gTooBig gTooBigT Tryd.underlying53 Fr.rowErr Tryd.underlying177 Tryd.underlying179 rfl rfl Tryd.underlying9 Fr.cellsErr Fr.cellsStr
  have cell : ∀ {w' : World} {n : String} {g : Nat} {u : Value}, Below W.heap.size W w' → Tryd.prog.globalNamed n = some g → W.var? Tryd.prog n = some #[u] → w'.cell? ⟨g, 0, none⟩ = some u := fun hb hg hv => by
    have := Mm.var_below hb hv
    rw [World.var?_cell hg this]
    rfl
  intro w' hb g hg
  rcases hg with rfl | rfl | rfl | rfl | rfl | rfl
  · exact ⟨_, _, cell hb gCount v1⟩
  · exact ⟨_, _, cell hb gLength v2⟩
  · exact ⟨_, _, cell hb gMark v3⟩
  · exact ⟨_, _, cell hb gEnd v4⟩
  · exact ⟨_, _, cell hb gQuote v5⟩
  · exact ⟨_, _, cell hb gTooBig v6⟩
end Go.Proofs.YtakldjdohgmeiaaDoor.Arg
