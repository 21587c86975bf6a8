/- A line of words in quotes, as a plain text: its words are told as they were. Conditions stand in each law. -/
import Derived.Test.YtakldjdohgmeiaaDoorParA
namespace Go.Proofs.YtakldjdohgmeiaaDoor
open Go.RowKit
set_option maxRecDepth 20000

namespace Pl
def hx (n : Nat) : UInt8 := UInt8.ofNat (if n < 10 then 48 + n else 87 + n)
def hexs : List UInt8 → List UInt8
  | [] => []
  | c :: r => 92 :: 120 :: hx (c.toNat / 16) :: hx (c.toNat % 16) :: hexs r
def quW (w : List UInt8) : List UInt8 := 32 :: 34 :: (hexs w ++ [34])
def quR (ws : List (List UInt8)) : List UInt8 := ws.flatMap quW
def quL (ws : List (List UInt8)) : List UInt8 := 120 :: quR ws
theorem hexU_hx_fin : ∀ k : Fin 16, hexU (hx k.val) = (k.val : Int) := by decide +kernel
theorem hexU_hx {k : Nat} (h : k < 16) : hexU (hx k) = (k : Int) := hexU_hx_fin ⟨k, h⟩
theorem hx_ge_fin : ∀ k : Fin 16, 48 ≤ (hx k.val).toNat := by decide +kernel
theorem two_hx (c : UInt8) (r : List UInt8) : two (hx (c.toNat / 16) :: hx (c.toNat % 16) :: r) = true := by
  have hc := c.toNat_lt
  simp only [two, hexU_hx (k := c.toNat / 16) (by omega), hexU_hx (k := c.toNat % 16) (by omega)]
  rw [decide_eq_true (by omega), decide_eq_true (by omega)]
  rfl
theorem twoV_hx (c : UInt8) (r : List UInt8) : twoV (hx (c.toNat / 16) :: hx (c.toNat % 16) :: r) = c := by
  have hc := c.toNat_lt
  simp only [twoV, hexU_hx (k := c.toNat / 16) (by omega), hexU_hx (k := c.toNat % 16) (by omega)]
  rw [show ((c.toNat / 16 : Nat) : Int) * 16 + ((c.toNat % 16 : Nat) : Int) = (c.toNat : Int) by omega]
  exact ofI_byte c
theorem hexs_length : ∀ w : List UInt8, (hexs w).length = 4 * w.length
  | [] => rfl
  | c :: w => by simp only [hexs, List.length_cons, hexs_length w]; omega
theorem dbl_hexs : ∀ (w r : List UInt8) (f : Nat), w.length < f → dbl f (hexs w ++ 34 :: r) = some (w, 4 * w.length + 1)
  | [], r, 0, h => absurd h (by simp)
  | [], r, f + 1, _ => dbl_q f r
  | c :: w, r, 0, h => absurd h (by simp)
  | c :: w, r, f + 1, h => by
    show dbl (f + 1) (92 :: 120 :: (hx (c.toNat / 16) :: hx (c.toNat % 16) :: (hexs w ++ 34 :: r))) = _
    rw [dbl_two _ _ (two_hx c _)]
    show (dbl f (hexs w ++ 34 :: r)).map _ = _
    rw [dbl_hexs w r f (by simp at h; omega), twoV_hx]
    simp
    omega
theorem quW_length (w : List UInt8) : (quW w).length = 4 * w.length + 3 := by simp [quW, hexs_length]
theorem tok_qu (w r : List UInt8) : tok (34 :: (hexs w ++ 34 :: r)) = some (w, 4 * w.length + 2) := by
  unfold tok
  rw [if_pos (by rfl)]
  show (dbl _ (hexs w ++ 34 :: r)).map _ = _
  rw [dbl_hexs w r _ (by simp [hexs_length]; omega)]
  rfl
theorem drop_qu (w r : List UInt8) : (34 :: (hexs w ++ 34 :: r)).drop (4 * w.length + 2) = r := by
  have : (34 :: (hexs w ++ 34 :: r)) = (34 :: (hexs w ++ [34])) ++ r := by simp
  rw [this, List.drop_append_of_le_length (by simp [hexs_length]), List.drop_eq_nil_of_le (by simp [hexs_length])]
  rfl
theorem quR_head : ∀ ws : List (List UInt8), (quR ws).head?.any (fun d => !blankB d) = false
  | [] => rfl
  | _ :: _ => rfl
theorem quR_cons (w : List UInt8) (ws : List (List UInt8)) : quR (w :: ws) = 32 :: 34 :: (hexs w ++ 34 :: quR ws) := by simp [quR, quW]
theorem inl_qu : ∀ (ws : List (List UInt8)) (f : Nat) (acc : List (List UInt8)), ws.length < f → acc.length + ws.length ≤ 1024 → inl f (quR ws) acc = (0, acc ++ ws)
  | [], 0, _, h, _ => absurd h (by simp)
  | [], f + 1, acc, _, _ => by simp [inl, quR]
  | w :: ws, 0, _, h, _ => absurd h (by simp)
  | w :: ws, f + 1, acc, h, hl => by
    rw [quR_cons]
    have hd : (32 :: 34 :: (hexs w ++ 34 :: quR ws)).dropWhile blankB = 34 :: (hexs w ++ 34 :: quR ws) := rfl
    unfold inl
    rw [hd]
    simp only
    rw [if_neg (by simp at hl; omega), tok_qu]
    simp only
    rw [drop_qu, quR_head, if_neg (by simp), inl_qu ws f (acc ++ [w]) (by simp at h; omega) (by simp at hl ⊢; omega)]
    simp
theorem tok_x (ws : List (List UInt8)) : tok (quL ws) = some ([120], 1) := by
  unfold tok quL
  rw [if_neg (by simp), if_neg (by simp)]
  have : (120 :: quR ws).takeWhile (fun c => !blankB c) = [120] := by
    cases ws with
    | nil => rfl
    | cons w ws => rw [quR_cons]; rfl
  rw [this]
  rfl
theorem inl_line (ws : List (List UInt8)) (f : Nat) (h : ws.length + 1 < f) (hl : ws.length < 1024) : inl f (quL ws) [] = (0, [120] :: ws) := by
  obtain ⟨f, rfl⟩ : ∃ g, f = g + 1 := ⟨f - 1, by omega⟩
  unfold inl
  have hd : (quL ws).dropWhile blankB = quL ws := rfl
  rw [hd]
  have ht := tok_x ws
  unfold quL at ht ⊢
  simp only
  rw [if_neg (by simp), ht]
  simp only
  rw [show (120 :: quR ws).drop 1 = quR ws from rfl, quR_head, if_neg (by simp), inl_qu ws f _ (by omega) (by simp; omega)]
  rfl
theorem hexs_ne : ∀ (w : List UInt8) (c : UInt8), c ∈ hexs w → c ≠ 10
  | [], c, h => by simp [hexs] at h
  | d :: w, c, h => by
    have hd := d.toNat_lt
    have g1 := hx_ge_fin ⟨d.toNat / 16, by omega⟩
    have g2 := hx_ge_fin ⟨d.toNat % 16, by omega⟩
    simp only [hexs, List.mem_cons] at h
    rcases h with rfl | rfl | rfl | rfl | h
    · decide
    · decide
    · intro e; rw [e] at g1; exact absurd g1 (by decide)
    · intro e; rw [e] at g2; exact absurd g2 (by decide)
    · exact hexs_ne w c h
theorem quR_ne : ∀ (ws : List (List UInt8)) (c : UInt8), c ∈ quR ws → c ≠ 10
  | [], c, h => by simp [quR] at h
  | w :: ws, c, h => by
    rw [quR_cons] at h
    simp only [List.mem_cons, List.mem_append] at h
    rcases h with rfl | rfl | h | rfl | h
    · decide
    · decide
    · exact hexs_ne w c h
    · decide
    · exact quR_ne ws c h
theorem quL_ne (ws : List (List UInt8)) (c : UInt8) (h : c ∈ quL ws) : c ≠ 10 := by
  rcases List.mem_cons.1 h with rfl | h
  · decide
  · exact quR_ne ws c h
theorem index_at : ∀ (a b : List UInt8), (∀ c ∈ a, c ≠ 10) → Lib.indexByte (a ++ 10 :: b) 10 = a.length
  | [], b, _ => by simp [Lib.indexByte]
  | c :: a, b, h => by
    have h1 := index_at a b (fun d hd => h d (by simp [hd]))
    have h2 : (c == (10 : UInt8)) = false := beq_eq_false_iff_ne.2 (h c (by simp))
    rw [List.cons_append, Lib.indexByte, h2, h1]
    simp
theorem lineM_at (a b : List UInt8) (m : Nat) (h : ∀ c ∈ a, c ≠ 10) (hm : a.length ≤ m) : lineM (a ++ 10 :: b) m = some a := by
  have hx : ixM (a ++ 10 :: b) m = a.length := by
    unfold ixM
    obtain ⟨k, hk⟩ : ∃ k, m + 1 = a.length + 1 + k := ⟨m - a.length, by omega⟩
    have : (a ++ 10 :: b).take (m + 1) = a ++ 10 :: b.take k := by
      rw [List.take_append, List.take_of_length_le (by omega), show m + 1 - a.length = k + 1 by omega]
      rfl
    rw [this]
    exact index_at a _ h
  unfold lineM
  rw [hx, if_neg (by omega)]
  simp
theorem cutM_cr (a : List UInt8) : cutM (a ++ [13]) = a := by simp [cutM, crB]
/-- a line of words in quotes, with CR and LF: its words are ready, and nothing is held -/
theorem part_qu (ws : List (List UInt8)) (hl : ws.length < 1024) (hs : (quL ws).length ≤ 4095) :
    partM fresh (quL ws ++ [13, 10]) = ((quL ws).length + 2, { fresh with ready := [[120] :: ws] }) := by
  have h1 : lineM (quL ws ++ [13, 10]) 4096 = some (quL ws ++ [13]) := by
    have := lineM_at (quL ws ++ [13]) [] 4096 (fun c hc => by
      rcases List.mem_append.1 hc with h | h
      · exact quL_ne ws c h
      · obtain rfl : c = 13 := by simpa using h
        decide) (by simp; omega)
    simpa using this
  unfold partM
  rw [if_neg (by simp), if_neg (by decide), if_neg (by decide), if_neg (by simp [quL])]
  unfold inlineM
  rw [h1]
  simp only
  rw [cutM_cr, inl_line ws 4098 (by omega) hl]
  simp [fresh]
theorem feed_qu (ws : List (List UInt8)) (hl : ws.length < 1024) (hs : (quL ws).length ≤ 4095) (f : Nat) :
    feedM (f + 2) fresh (quL ws ++ [13, 10]) = ({ fresh with ready := [[120] :: ws] }, []) := by
  unfold feedM
  rw [if_neg (by decide), part_qu ws hl hs]
  simp only
  rw [if_neg (by omega)]
  have hd : (quL ws ++ [13, 10]).drop ((quL ws).length + 2) = [] := List.drop_eq_nil_of_le (by simp)
  rw [hd]
  unfold feedM
  rw [if_neg (by simp [fresh])]
  rfl
/-- a word more -/
theorem quL_snoc (ws : List (List UInt8)) (w : List UInt8) : quL (ws ++ [w]) = quL ws ++ ([32, 34] ++ hexs w) ++ [34] := by simp [quL, quR, quW]
theorem hexs_snoc : ∀ (w : List UInt8) (c : UInt8), hexs (w ++ [c]) = hexs w ++ [92, 120, hx (c.toNat / 16), hx (c.toNat % 16)]
  | [], c => rfl
  | d :: w, c => by simp only [List.cons_append, hexs, hexs_snoc w c]
end Pl
end Go.Proofs.YtakldjdohgmeiaaDoor
