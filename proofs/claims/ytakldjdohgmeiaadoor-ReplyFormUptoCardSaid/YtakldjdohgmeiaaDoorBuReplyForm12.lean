/- pantrylaw16.ReplyForm: the law's walk. Conditions stand in each law. The frame of every law of this seat: if the walk returns true and turns nothing that was there, the law's statement follows. Conditions: what stands in 'lifted': the argument types can be read, one result, a bool. The frame of the laws whose rows list package-level variables: the witness's world, what the list gives. Conditions stand in each law. What arguments of the types []byte, []string lie like in memory, and how great they are under the form's bound; utf8's tables and bytealg.MaxLen out of the frame. Conditions stand in each law. Conditions stand in each law. -/
import Derived.Test.YtakldjdohgmeiaaDoorBuReplyForm11
import Derived.Test.YtakldjdohgmeiaaDoorBuReplyForm4
import Derived.Test.YtakldjdohgmeiaaDoorBuReplyForm2
import Derived.Test.YtakldjdohgmeiaaDoorRows
import Derived.ProofKit
import Derived.OpenShut
import Derived.ChangeOld
import Derived.Below
import Derived.Deep.DeepHandedRow
import Derived.SizedLaws
import Derived.Test.YtakldjdohgmeiaaDoorBuReplyForm6
import Derived.Test.YtakldjdohgmeiaaDoorCards
import Derived.Test.YtakldjdohgmeiaaDoorTie
import Derived.Lay
import Derived.MakeChecks
import Derived.Stop.LaidErr
import Derived.Test.YtakldjdohgmeiaaDoorBuReplyForm8
import Derived.Test.YtakldjdohgmeiaaDoorBuReplyForm7
import Derived.Deep.Slices
namespace Go.Proofs.YtakldjdohgmeiaaDoor
open Go.RowKit
set_option maxRecDepth 20000

namespace RT
open Pl
theorem dec_zero {l : List UInt8} (h : dcode l = 0) : (dtree l).ok = true ∧ (dtree l).In ∧ (dtree l).depth ≤ 8 ∧ dsize l = (dtree l).enc.length ∧ dsize l ≤ 16777216 ∧ ∃ r, l = (dtree l).enc ++ r := by
  have h1 : (decR 8 l).1 = 0 := by
    by_cases hc : (decR 8 l).1 = 0
    · exact hc
    · have := (dec_bad rfl hc).1
      rw [this] at h
      exact h
  have h2 : ¬ 16777216 < l.length - (decR 8 l).2.2.length := fun hb => by
    have := (dec_long h1 hb).1
    rw [this] at h
    exact absurd h (by decide)
  obtain ⟨g1, g2, g3⟩ := dec_good h1 h2
  obtain ⟨a1, a2, a3, a4⟩ := dec_back 8 l (decR 8 l).2.1 (decR 8 l).2.2 (by rw [← h1])
  have e := congrArg List.length a4
  rw [List.length_append] at e
  rw [g2]
  exact ⟨a1, a2, a3, by rw [g3]; omega, by rw [g3]; omega, _, a4⟩
theorem dec_fail {l : List UInt8} (h : dcode l ≠ 0) : dtree l = nul ∧ dsize l = 0 := ⟨by unfold dtree; rw [if_neg h], by unfold dsize; rw [if_neg h]⟩
end RT
namespace Mm
theorem Bs.bytesR {w : World} {v : Value} {l : List UInt8} (h : Bs w v l) : BytesR w v l := by
  obtain ⟨a, c, rfl, _, _, hm⟩ := h
  refine ⟨a, c, rfl, ?_⟩
  rcases Nat.eq_zero_or_pos l.length with h0 | h0
  · exact .inl h0
  · obtain ⟨g, o, e, hb⟩ := hm h0
    exact .inr ⟨g, o, e, World.block_lt_of_cell? _ _ (hb 0 h0), hb⟩
end Mm

set_option maxHeartbeats 8000000 in
theorem form_walk (W : World) (v : Value) (l : List UInt8) (hv : Mm.Bs W v l) (hl : l.length ≤ 1048576) (hT : Mm.Tab W) (hU : Mm.U8 W) (hX : Mm.MaxI W) (hE : Mm.Errs W) :
    Calls Tryd.prog 9 #[v] W fun e w' => e = .returned (.bool true) ∧ Below W.heap.size W w' := by
  obtain ⟨a, c, rfl⟩ : ∃ a c, v = .slice a l.length c := by obtain ⟨a, c, h, _⟩ := hv; exact ⟨a, c, h⟩
  have HT := Pl.hid hT
  have HU := Pl.hid hU
  have HX := Pl.hid hX
  have HE := Pl.hid hE
  obtain ⟨N, hN⟩ : ∃ N, N = l.length := ⟨_, rfl⟩
  rw [← hN] at hv hl ⊢
  have HV := Pl.hid hv
  have HN := Pl.hid hN
  clear hT hU hX hE hv hN
  go_enter Tryd.func9, Tryd.ntmps9
  go_wp2_with fail
  refine (wakes16_walk W W HT.out HU.out HX.out HE.out (Below.refl _ _)).mono ?_
  rintro e w1 ⟨rfl, hb1⟩
  have HB1 := Pl.hid hb1
  clear hb1
  go_wp2_with fail
  refine (decode_walk w1 (HU.out.on HB1.out) (HX.out.on HB1.out) (HE.out.on HB1.out) _ l (HV.out.dn HB1.out) (by have := HN.out; omega)).mono ?_
  rintro e w2 ⟨c0, c1, c2, c3, rfl, ho2, hb2⟩
  have HO2 := Pl.hid ho2
  have HB2 := Pl.hid (HB1.out.trans (hb2.mono HB1.out.size))
  clear ho2 hb2
  obtain ⟨y, hy⟩ : ∃ y, w2.heap.size = y := ⟨_, rfl⟩
  obtain ⟨cd, hcd⟩ : ∃ cd, cd = RT.dcode l := ⟨_, rfl⟩
  obtain ⟨S, hS⟩ : ∃ S, S = RT.dsize l := ⟨_, rfl⟩
  rw [← hcd, ← hS]
  have HCD := Pl.hid hcd
  have HS := Pl.hid hS
  clear hcd hS
  have HST : Hid (∀ wa : World, wa.heap[y]? = some (.cells #[c0, c1, c2, c3] 31 (0, 0)) → Below w2.heap.size w2 wa → Hid (Below W.heap.size W wa) ∧ Hid (Mm.OwnT wa w1.heap.size (RT.dtree l) [c0, c1, c2, c3]) ∧
      wa.cell? ⟨y, 0, none⟩ = some c0 ∧ wa.cell? ⟨y, 1, none⟩ = some c1 ∧ wa.cell? ⟨y, 2, none⟩ = some c2 ∧ wa.cell? ⟨y, 3, none⟩ = some c3) := fun wa hwa hba =>
    ⟨HB2.out.trans (hba.mono HB2.out.size), HO2.out.below hba, Mm.cell_of hwa (i := 0) rfl, Mm.cell_of hwa (i := 1) rfl, Mm.cell_of hwa (i := 2) rfl, Mm.cell_of hwa (i := 3) rfl⟩
  by_cases h0 : cd = 0
  · obtain ⟨a1, a2, a3, a4, a5, rs, a6⟩ := RT.dec_zero (l := l) (by rw [← HCD.out]; exact h0)
    subst h0
    obtain ⟨T, hT⟩ : ∃ T, T = RT.dtree l := ⟨_, rfl⟩
    rw [← hT] at a1 a2 a3 a4 a6 HST
    rw [← hT] at HO2
    have s1 := RT.sz_enc T a1
    have HC := RT.co_good a1 (by omega) (by rw [← a4]; omega)
    have hS3 : 3 ≤ S := by rw [HS.out, a4]; exact s1.2
    have hSN : S ≤ N := by rw [HS.out, a4, HN.out]; conv => rhs; rw [a6]
                           rw [List.length_append]; omega
    have HSE : Hid (S = T.enc.length) := HS.out.trans a4
    have HLE : Hid (l = T.enc ++ rs) := a6
    have HSZ : Hid (T.sz ≤ 1073741824) := by show _ ≤ _; have := s1.1; omega
    have HIN := Pl.hid a2
    have HCC := Pl.hid HC
    have hNc : N ≤ c := by
      obtain ⟨_, _, e, h, _⟩ := HV.out
      injection e with e1 e2 e3
      rw [← HN.out, ← e3] at h
      exact h
    have hSb : S ≤ 16777216 := by rw [HS.out]; exact a5
    clear a1 a2 a3 a4 a5 a6 hT s1 HC
    go_wp2_with (refine Mm.wp_store4 _ rfl _ _ rfl y _ _ _ _ _ _ (by rw [← hy]; exact heap_alloc_new w2 _) rfl rfl rfl HO2.out.one ?_; intro wa hwa hsa hga; clear hsa; obtain ⟨HBA, HOA, q0, q1, q2, q3⟩ := HST.out wa hwa (Mm.newcell4 (by rw [hy]; exact hga)); clear hwa hga)
    refine (encode_walk wa (HT.out.on HBA.out) T HIN.out HSZ.out c0 c1 c2 c3 HOA.out.x wa (Below.refl _ _)).mono ?_
    rw [HCC.out.1, HCC.out.2]
    rintro e w3 ⟨v3, rfl, ho3, hb3⟩
    have HO3 := Pl.hid ho3
    have HB3 := Pl.hid (HBA.out.trans (hb3.mono HBA.out.size))
    clear ho3 hb3 q0 q1 q2 q3
    go_wp2_with fail
    have HF : Hid (Mm.Bs W (.slice a S c) T.enc) := by
      have h := HV.out
      rw [HLE.out] at h
      have h := h.front
      rw [← HSE.out] at h
      exact h
    refine (same16_eq v3 _ T.enc w3 (by have := HSE.out; omega) HO3.out.bytesR (HF.out.bytesR.below HB3.out)).mono ?_
    rintro e w4 ⟨rfl, hb4⟩
    go_wp2_with fail
    go_ret
    exact ⟨rfl, HB3.out.trans (hb4.mono HB3.out.size)⟩
  · obtain ⟨a1, a2⟩ := RT.dec_fail (l := l) (by rw [← HCD.out]; exact h0)
    rw [a1] at HST HO2
    obtain rfl : S = 0 := HS.out.trans a2
    have hcb : ((cd : Int) != 0) = true := bne_iff_ne.2 h0
    clear a1 a2 h0
    go_wp2_with (refine Mm.wp_store4 _ rfl _ _ rfl y _ _ _ _ _ _ (by rw [← hy]; exact heap_alloc_new w2 _) rfl rfl rfl HO2.out.one ?_; intro wa hwa hsa hga; clear hsa; obtain ⟨HBA, HOA, q0, q1, q2, q3⟩ := HST.out wa hwa (Mm.newcell4 (by rw [hy]; exact hga)); clear hwa hga)
    refine (alike_tree wa RT.nul (by decide) c0 c1 c2 c3 _ _ _ _ HOA.out.x (Mm.leaf_x wa 0 ⟨#[]⟩ 0) wa (Below.refl _ _)).mono ?_
    rintro e w3 ⟨rfl, hb3⟩
    go_wp2_with fail
    go_ret
    exact ⟨rfl, HBA.out.trans (hb3.mono HBA.out.size)⟩
end Go.Proofs.YtakldjdohgmeiaaDoor

namespace Go.Proofs.YtakldjdohgmeiaaDoor.Fr
open Go.ChangeShapes Go.WideShapes Go.ChangeAt Go.RowKit

section
variable {H : Type} {enc : TypeId × Value → H} {P : Program}

theorem trodAll_below (hl : laidOutB P = true) {W W' : World} (hb : Below W.heap.size W W') :
    ∀ {ts : List TypeId} {vs : List Value} {ds : List (DataW H)} {ps : List MemPlace}, (∀ t ∈ ts, P.readableRec t = true ∧ t < P.types.size) →
      DataW.TrodAll enc P W 0 (fun _ => true) true ts vs ds ps → DataW.TrodAll enc P W' 0 (fun b => decide (b < W.heap.size)) true ts vs ds ps
  | [], [], [], _, _, h => h
  | t :: ts, v :: vs, d :: ds, ps, hr, h => by
    obtain ⟨p, q, h1, h2, rfl⟩ := h
    have hlt : ∀ x ∈ p, x.block < W.heap.size := by
      obtain ⟨m, hm⟩ := h1
      exact DataW.trod_lt m _ _ _ hm
    exact ⟨p, q, Below.trod hl (hr t (by simp)).1 (hr t (by simp)).2 h1 hb hlt, trodAll_below hl hb (fun t' ht' => hr t' (by simp [ht'])) h2, rfl⟩
  | [], _ :: _, _, _, _, h => h.elim
  | [], [], _ :: _, _, _, h => h.elim
  | _ :: _, [], _, _, _, h => h.elim
  | _ :: _, _ :: _, [], _, _, h => h.elim

theorem trodAll_length {W : World} {base : Nat} {sp : Nat → Bool} {held : Bool} :
    ∀ {ts : List TypeId} {vs : List Value} {ds : List (DataW H)} {ps : List MemPlace}, DataW.TrodAll enc P W base sp held ts vs ds ps → ds.length = ts.length
  | [], [], [], _, _ => rfl
  | t :: ts, v :: vs, d :: ds, ps, h => by
    obtain ⟨p, q, _, h2, _⟩ := h
    simp [trodAll_length h2]
  | [], _ :: _, _, _, h => h.elim
  | [], [], _ :: _, _, h => h.elim
  | _ :: _, [], _, _, h => h.elim
  | _ :: _, _ :: _, [], _, h => h.elim

theorem post_true {f : Func} {s : ChangeSpec} {W W' : World} {args : Array Value} {ds gs : List (DataW H)} {before : List MemPlace} {tb : TypeId} (hl : laidOutB P = true)
    (hts : ∀ t ∈ f.params.toList, P.readableRec t = true ∧ t < P.types.size) (hvars : s.vars = []) (hW : DataW.Whole enc P f.params.toList s.vars false W args.toList ds gs before)
    (hb : Below W.heap.size W W') (hres : f.resultTypes = #[tb]) (hub : P.underlying tb = some .bool) (hfn : s.fn H (ds ++ gs) = { results := [.lit (.bool true)], args := ds }) :
    s.post enc P f false true false false W args (.bool true) W' := by
  have hW' := hW
  obtain ⟨p, q, h1, h2, rfl, hz, ha⟩ := hW
  rw [hvars] at h2
  obtain ⟨rfl, rfl⟩ := trodVars_none h2
  refine ⟨ds, [], p ++ [], [], p, [], hW', ?_, ?_, ?_, hb.frame _, fun h => by cases h⟩
  · rw [hfn, hres]
    exact trodAll_mk1 (shut_bool hub _)
  · rw [hfn]
    exact trodAll_below hl hb hts h1
  · rw [hfn, hvars]
    rfl
end

theorem str_size {a : ByteArray} (h : a.data.toList.length ≤ reachBytes) : a.size ≤ 140737488351232 := by
  rw [Array.length_toList] at h
  exact h

theorem lifted {H : Type} {enc : TypeId × Value → H} {C : Checked} {os : Os} {f : FuncId} {fn : Func} {s : OpenSpec} {F : Stop.Interp} {laid : List (String × DataW Unit)} {tb : TypeId}
    (own : ownKnob C.prog.godebug = none) (started : os.Started) (noInit : C.prog.inits.idxOf? f = none) (hfn : C.prog.funcs[f]? = some fn)
    (witness : ∃ (w : World) (tape : Tape) (i : Input), w.os = os ∧ (w.forCall tape i).Shaped C.prog ∧ i.vars = [] ∧ Input.okWide C.prog (w.forCall tape i) .any w.heap.size f i ∧
      s.preRow enc C.prog fn [] false laid (w.forCall tape i).memory i.args ∧ ({} : Assume).holds C.prog (lone (Frame.enter C.prog f i.args .normal) [] (w.forCall tape i)))
    (hl : laidOutB C.prog = true) (hts : (fn.params.toList.all fun t => C.prog.readableRec t && decide (t < C.prog.types.size)) = true) (hvars : s.vars = [])
    (hres : fn.resultTypes = #[tb]) (hub : C.prog.underlying tb = some .bool)
    (hspec : ∀ ds : List (DataW H), ds.length = fn.params.toList.length → (s.at F).fn H ds = { results := [.lit (.bool true)], args := ds })
    (walk : ∀ (W : World) (base : Nat) (args : Array Value) (ds : List (DataW H)) (before : List MemPlace),
      (∀ (j : Nat) t v, fn.params[j]? = some t → args[j]? = some v → Value.okWide C.prog W .any base t v) →
      DataW.TrodAll enc C.prog W 0 (fun _ => true) true fn.params.toList args.toList ds before → W.noneFrozen before →
      (∀ k, s.cond = some k → k H ds = true) →
      (DataW.weightsEach C.prog fn.params.toList ds).all (· ≤ reachBytes) = true →
      laidMetH C.prog laid W → W.ShapedOpen C.prog →
      Calls C.prog f args W fun e W' => e = .returned (.bool true) ∧ Below W.heap.size W W') :
    ReturnsInHanded {} C os f .any (s.preRow enc C.prog fn [] false laid) ((s.at F).post enc C.prog fn false true false false) := by
  have hts' : ∀ t ∈ fn.params.toList, C.prog.readableRec t = true ∧ t < C.prog.types.size := by
    intro t ht
    have := List.all_eq_true.1 hts t ht
    simpa using this
  refine returnsInHanded_of_row own started noInit hfn witness ?_
  intro W base args ds gs before hval hW _ hk hsz hL hsh _
  have hW0 := hW
  obtain ⟨p, q, h1, h2, rfl, hz, ha⟩ := hW
  rw [hvars] at h2
  obtain ⟨rfl, rfl⟩ := trodVars_none h2
  have hvt : s.bare.plain.varTypes C.prog = [] := by
    show s.vars.filterMap _ = []
    rw [hvars]
    rfl
  rw [hvt] at hsz
  simp only [List.append_nil] at hk hsz hz
  refine (walk W base args ds p hval h1 hz hk hsz hL hsh).mono fun e W' ⟨he, hb⟩ => ?_
  subst he
  refine ⟨_, rfl, ?_⟩
  exact post_true hl hts' hvars hW0 hb hres hub (by rw [List.append_nil]; exact hspec ds (trodAll_length h1))
end Go.Proofs.YtakldjdohgmeiaaDoor.Fr

namespace Go.Proofs.YtakldjdohgmeiaaDoor.Fr
open Go.ChangeShapes Go.WideShapes Go.ChangeAt Go.RowKit
set_option maxRecDepth 100000

theorem witness_shaped {H : Type} {enc : TypeId × Value → H} {C : Checked} {os : Os} {f : FuncId} {fn : Func} {s : OpenSpec} {conds : List PathCond} {apart : Bool} {laid : List (String × DataW Unit)} (w0 : World) (args : Array Value) (hos : w0.os = os)
    (hsh : (w0.forCall (fun _ _ => 0) ⟨#[], args, []⟩).Shaped C.prog)
    (hok : Input.okWideB C.prog (w0.forCall (fun _ _ => 0) ⟨#[], args, []⟩) f ⟨#[], args, []⟩ = true)
    (hrow : s.preRow enc C.prog fn conds apart laid (w0.forCall (fun _ _ => 0) ⟨#[], args, []⟩).memory args) :
    ∃ (w : World) (tape : Tape) (i : Input), w.os = os ∧ (w.forCall tape i).Shaped C.prog ∧ i.vars = [] ∧ Input.okWide C.prog (w.forCall tape i) .any w.heap.size f i ∧
      s.preRow enc C.prog fn conds apart laid (w.forCall tape i).memory i.args ∧ ({} : Assume).holds C.prog (lone (Frame.enter C.prog f i.args .normal) [] (w.forCall tape i)) :=
  ⟨w0, fun _ _ => 0, ⟨#[], args, []⟩, hos, hsh, (Input.okWide_of_okWideB (base := 0) hok).1, (Input.okWide_of_okWideB hok).2, hrow, by
    simp only [Assume.holds]
    exact ⟨by simp, by simp, fun _ => Modest.zero, by simp, by simp⟩⟩

theorem gPow : Tryd.prog.globalNamed "internal/strconv.uint64pow10" = some 9 := by kernel_rfl
theorem gPowType : (Tryd.prog.globals[9]?).map (·.type) = some 166 := by kernel_rfl
theorem cellsPow : Tryd.prog.cellsOf 166 = 20 := by kernel_rfl
theorem cellsU64 : Tryd.prog.cellsOf 141 = 1 := by kernel_rfl
/-- the table of powers, third on every list -/
theorem tab {W : World} {x y : String × DataW Unit} {rest : List (String × DataW Unit)} (h : laidMet Tryd.prog (x :: y :: ("internal/strconv.uint64pow10", Rows.laid_internal_strconv_uint64pow10) :: rest) W) : Mm.Tab W :=
  Mm.tab_of (Lib.tabIs_of_head (rest := rest) gPow gPowType Tryd.underlying166 Tryd.underlying141 cellsU64 cellsPow h.tail.tail)

theorem gRange : Tryd.prog.globalNamed "strconv.ErrRange" = some 11 := by kernel_rfl
theorem gRangeType : (Tryd.prog.globals[11]?).map (·.type) = some 53 := by kernel_rfl
theorem gSyntax : Tryd.prog.globalNamed "strconv.ErrSyntax" = some 10 := by kernel_rfl
theorem gSyntaxType : (Tryd.prog.globals[10]?).map (·.type) = some 53 := by kernel_rfl
theorem starErr : "*" ++ "errors.errorString" = "*errors.errorString" := by decide
theorem rowErr (u : TypeId) (h : Tryd.prog.typeName? 3 u = some "*errors.errorString") : u = 177 :=
  typeName_ptr_named (nm := "errors.errorString") (by rw [starErr]; kernel_rfl) (by kernel_rfl) (by decide) u (by rw [starErr]; exact h)
theorem cellsErr : Tryd.prog.cellsOf 179 = 1 := by kernel_rfl
theorem cellsStr : Tryd.prog.cellsOf 9 = 1 := by kernel_rfl
/-- the two errors of the library -/
theorem errs {W : World} {r r' : List (String × DataW Unit)} (h1 : laidMet Tryd.prog (("strconv.ErrRange", Rows.laid_strconv_ErrRange) :: r) W) (h2 : laidMet Tryd.prog (("strconv.ErrSyntax", Rows.laid_strconv_ErrSyntax) :: r') W) : Mm.Errs W := by
  obtain ⟨a1, s1, v1, _⟩ := laid_sentinel h1 gRange gRangeType Tryd.underlying53 rowErr Tryd.underlying177 Tryd.underlying179 rfl rfl Tryd.underlying9 cellsErr cellsStr
  obtain ⟨a2, s2, v2, _⟩ := laid_sentinel h2 gSyntax gSyntaxType Tryd.underlying53 rowErr Tryd.underlying177 Tryd.underlying179 rfl rfl Tryd.underlying9 cellsErr cellsStr
  exact Mm.errs_of ⟨_, _, v2⟩ ⟨_, _, v1⟩
end Go.Proofs.YtakldjdohgmeiaaDoor.Fr

namespace Go.Proofs.YtakldjdohgmeiaaDoor.Arg
open Go.ChangeShapes Go.WideShapes Go.ChangeAt Go.RowKit
open Mm Pl
set_option maxRecDepth 20000

def sumL (ws : List (List UInt8)) : Nat := (ws.map List.length).sum
theorem cellsU8 : Tryd.prog.cellsOf 5 = 1 := by kernel_rfl
theorem addN (b o n : Nat) : (⟨b, o, none⟩ : Addr).add n = ⟨b, o + n, none⟩ := by
  unfold Addr.add; split <;> simp_all
/-- bytes that came in -/
theorem bytes {H : Type} {enc : TypeId × Value → H} {W : World} {fuel : Nat} {v : Value} {x : DataW H × List MemPlace}
    (h : DataW.trod enc Tryd.prog W 0 (fun _ => true) true fuel 24 [v] = some x) : ∃ l : List UInt8, Bs W v l ∧ l.length ≤ 9223372036854775807 := by
  rcases Go.Deep.open_slice1 Tryd.underlying24 cellsU8 h with ⟨e3, _⟩ | ⟨ad, len, cap, m, n, V, D, Pq, e3, _, hlc, hcap, hm, _, hx⟩
  · obtain rfl := List.cons.inj e3 |>.1
    exact ⟨[], ⟨none, 0, rfl, Nat.le_refl _, fun _ => rfl, fun h => absurd h (by simp)⟩, by simp⟩
  · obtain rfl := List.cons.inj e3 |>.1
    have hlm : len ≤ m := by rw [hm]; split <;> omega
    have key : ∀ i, i < len → ∃ c : UInt8, W.cell? (ad.add i) = some (.int .u8 (c.toNat : Int)) := by
      intro i hi
      obtain ⟨hc, hd⟩ := hx i (by omega)
      obtain ⟨k, hk, _, hw⟩ := DataW.trod_int Tryd.underlying5 hd
      obtain e := List.cons.inj hk |>.1
      have hw' : IntKind.u8.min ≤ k ∧ k ≤ IntKind.u8.max := by simpa [Lit.wf] using hw
      have e1 : IntKind.u8.min = 0 := by decide
      have e2 : IntKind.u8.max = 255 := by decide
      refine ⟨UInt8.ofNat k.toNat, ?_⟩
      rw [hc, e]
      congr 2
      rw [UInt8.toNat_ofNat']
      omega
    obtain ⟨F, hF⟩ : ∃ F : Nat → UInt8, ∀ i, i < len → W.cell? (ad.add i) = some (.int .u8 (F i).toNat) := by
      refine ⟨fun i => if h : i < len then Classical.choose (key i h) else 0, fun i hi => ?_⟩
      rw [Classical.choose_spec (key i hi)]
      simp only [hi, dif_pos]
    refine ⟨(List.range len).map F, ⟨some ad, cap, by simp, by simpa using hlc, fun e => (by cases e), fun h0 => ?_⟩, by simp; unfold maxLen at hcap; omega⟩
    have h0' : 0 < len := by simpa using h0
    obtain ⟨ab, ao, sp⟩ := ad
    have hsp := World.cell?_spot (hF 0 h0')
    simp only [Addr.add] at hsp
    subst hsp
    refine ⟨ab, ao, rfl, fun j hj => ?_⟩
    have hj' : j < len := by simpa using hj
    have := hF j hj'
    rw [addN] at this
    rw [this]
    simp [Pl.at_, List.getElem?_range hj']
theorem bulk_pos {H : Type} (d : DataW H) : 0 < Rows.uptoBulk d := by
  cases d with
  | lit l => cases l <;> simp [Rows.uptoBulk]
  | _ => simp [Rows.uptoBulk]
theorem bulk_len {H : Type} : ∀ l : List (DataW H), l.length ≤ Rows.uptoBulkAll l
  | [] => by simp [Rows.uptoBulkAll]
  | d :: l => by
    have h1 := bulk_len l
    have h2 := bulk_pos d
    simp only [Rows.uptoBulkAll, List.length_cons]
    omega
theorem bulk_mem {H : Type} : ∀ {l : List (DataW H)} {d : DataW H}, d ∈ l → Rows.uptoBulk d ≤ Rows.uptoBulkAll l
  | e :: l, d, h => by
    simp only [Rows.uptoBulkAll]
    rcases List.mem_cons.1 h with rfl | h
    · omega
    · have := bulk_mem h
      omega
theorem bulk_texts {H : Type} : ∀ l : List (List UInt8), Rows.uptoBulkAll (l.map fun s => (DataW.lit (.string s) : DataW H)) = sumL l + l.length
  | [] => by simp [Rows.uptoBulkAll, sumL]
  | s :: l => by
    have := bulk_texts (H := H) l
    simp only [List.map_cons, Rows.uptoBulkAll, Rows.uptoBulk, sumL, List.sum_cons, List.length_cons] at this ⊢
    omega
/-- bytes that came in, and how many -/
theorem bytesU {H : Type} {enc : TypeId × Value → H} {W : World} {fuel : Nat} {v : Value} {x : DataW H × List MemPlace}
    (h : DataW.trod enc Tryd.prog W 0 (fun _ => true) true fuel 24 [v] = some x) : ∃ l : List UInt8, Bs W v l ∧ l.length ≤ Rows.uptoBulk x.1 := by
  obtain ⟨l, hl, _⟩ := bytes h
  refine ⟨l, hl, ?_⟩
  obtain ⟨a, c, e, _⟩ := hl
  rcases Go.Deep.open_slice1 Tryd.underlying24 cellsU8 h with ⟨e3, _⟩ | ⟨ad, len, cap, m, n, V, D, Pq, e3, _, _, _, _, hxx, _⟩
  · obtain e4 := List.cons.inj e3 |>.1
    rw [e] at e4
    injection e4 with _ e4 _
    omega
  · obtain e4 := List.cons.inj e3 |>.1
    rw [e] at e4
    injection e4 with _ e4 _
    rw [hxx]
    simp only [Rows.uptoBulk]
    have := bulk_len ((List.range len).map D)
    rw [List.length_map, List.length_range] at this
    omega
/-- a row of texts that came in -/
theorem texts {H : Type} {enc : TypeId × Value → H} {W : World} {fuel : Nat} {v : Value} {x : DataW H × List MemPlace}
    (h : DataW.trod enc Tryd.prog W 0 (fun _ => true) true fuel 22 [v] = some x) : ∃ l : List (List UInt8), RowT W v l ∧ l.length + sumL l ≤ Rows.uptoBulk x.1 := by
  rcases Go.Deep.open_slice1 Tryd.underlying22 Fr.cellsStr h with ⟨e3, _⟩ | ⟨ad, len, cap, m, n, V, D, Pq, e3, _, hlc, hcap, hm, hxx, hx⟩
  · obtain rfl := List.cons.inj e3 |>.1
    exact ⟨[], ⟨none, 0, rfl, Nat.le_refl _, fun h => absurd h (by simp)⟩, by simp [sumL]⟩
  · obtain rfl := List.cons.inj e3 |>.1
    have hlm : len ≤ m := by rw [hm]; split <;> omega
    have key : ∀ i, i < len → ∃ s : List UInt8, W.cell? (ad.add i) = some (.string (B s)) ∧ D i = .lit (.string s) := by
      intro i hi
      obtain ⟨hc, hd⟩ := hx i (by omega)
      obtain ⟨s, hk, hd2, _⟩ := DataW.trod_string Tryd.underlying9 hd
      obtain e := List.cons.inj hk |>.1
      refine ⟨L s, by rw [hc, e, B_L], ?_⟩
      injection hd2
    obtain ⟨F, hF⟩ : ∃ F : Nat → List UInt8, ∀ i, i < len → W.cell? (ad.add i) = some (.string (B (F i))) ∧ D i = .lit (.string (F i)) := by
      refine ⟨fun i => if h : i < len then Classical.choose (key i h) else [], fun i hi => ?_⟩
      have := Classical.choose_spec (key i hi)
      simp only [hi, dif_pos]
      exact this
    refine ⟨(List.range len).map F, ⟨some ad, cap, by simp, by simpa using hlc, fun h0 => ?_⟩, ?_⟩
    · have h0' : 0 < len := by simpa using h0
      obtain ⟨ab, ao, sp⟩ := ad
      have hsp := World.cell?_spot (hF 0 h0').1
      simp only [Addr.add] at hsp
      subst hsp
      refine ⟨ab, ao, rfl, fun i s hs => ?_⟩
      have hi : i < len := by
        have := (List.getElem?_eq_some_iff.1 hs).1
        simpa using this
      rw [List.getElem?_map, List.getElem?_range hi] at hs
      injection hs with hs
      subst hs
      have := (hF i hi).1
      rw [addN] at this
      exact this
    · rw [hxx]
      simp only [Rows.uptoBulk]
      have e : (List.range len).map D = ((List.range len).map F).map fun s => (DataW.lit (.string s) : DataW H) := by
        rw [List.map_map]
        refine List.map_congr_left fun i hi => ?_
        exact (hF i (by simpa using hi)).2
      rw [e, bulk_texts]
      omega
end Go.Proofs.YtakldjdohgmeiaaDoor.Arg
namespace Go.Proofs.YtakldjdohgmeiaaDoor.Fr
open Go.Shelf Go.Lib
set_option maxRecDepth 100000
theorem u8 {W : World} {r r' : List (String × DataW Unit)} (h1 : laidMet Tryd.prog (("unicode/utf8.acceptRanges", Rows.laid_unicode_utf8_acceptRanges) :: r) W) (h2 : laidMet Tryd.prog (("unicode/utf8.first", Rows.laid_unicode_utf8_first) :: r') W) : Mm.U8 W := by
  refine Mm.u8_of (utf8Tabs_of_readsT u8types u8extra ?_ ?_)
  · have h := laidMet.reads h2 (List.mem_cons_self)
    have e : Rows.laid_unicode_utf8_first = firstData := by kernel_rfl
    rw [e] at h
    exact h
  · have h := laidMet.reads h1 (List.mem_cons_self)
    have e : Rows.laid_unicode_utf8_acceptRanges = acceptData := by kernel_rfl
    rw [e] at h
    exact h
theorem maxI {W : World} (h : W.ShapedOpen Tryd.prog) : Mm.MaxI W := by
  refine Mm.maxI_of ?_
  obtain ⟨cs, hh, hs, hr⟩ := h.1 6 #[.int .i64 0] 3 (of_decide_eq_true (by kernel_rfl)) (by kernel_rfl)
  obtain ⟨ts, hts, _, hall⟩ := hr (by kernel_rfl)
  rw [show Tryd.prog.cellTypes Tryd.prog.depth 3 = some [3] by kernel_rfl] at hts
  cases hts
  have h1 : 0 < cs.size := by rw [hs]; decide
  have h0 : cs[0]? = some cs[0] := Array.getElem?_eq_some_iff.2 ⟨h1, rfl⟩
  obtain ⟨u, hu', hok⟩ := hall 0 cs[0] h0
  have : u = 3 := by
    injection hu' with hu'
    exact hu'.symm
  subst this
  have hcell : W.cell? ⟨6, 0, none⟩ = some cs[0] := by
    unfold World.cell?
    rw [hh]
    exact h0
  rw [hcell]
  unfold Cell.ok at hok
  rw [Tryd.underlying3] at hok
  generalize cs[0] = v at hok ⊢
  cases v with
  | int kd n =>
    by_cases hk : kd = .i64
    · subst hk
      exact ⟨n, rfl⟩
    · exfalso
      revert hok
      simp
      intro h
      exact absurd h hk
  | _ => simp at hok
end Go.Proofs.YtakldjdohgmeiaaDoor.Fr
