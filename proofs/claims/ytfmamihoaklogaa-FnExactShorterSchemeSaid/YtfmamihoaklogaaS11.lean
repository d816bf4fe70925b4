/- Schemes by sets: the columns (used by the claims of this seat). -/
import Derived.Test.YtfmamihoaklogaaS8
import Derived.Test.YtfmamihoaklogaaO1
namespace Go.Proofs.Ytfmamihoaklogaa.T
open Go.RowKit
set_option linter.unusedVariables false
set_option maxRecDepth 100000
attribute [local irreducible] pc

/-- How many of the first i shares a set has. -/
def kb (set : Nat) : Nat → Nat
  | 0 => 0
  | i + 1 => kb set i + (set.testBit i).toNat
theorem kb_le (set : Nat) : ∀ i, kb set i ≤ i
  | 0 => Nat.le_refl _
  | i + 1 => by
    have h1 := kb_le set i
    have h2 := Bool.toNat_le (set.testBit i)
    simp only [kb]
    omega
/-- A column, spread over the shares of a set. -/
def sprB (c set : Nat) : Nat → Bool := fun i => set.testBit i && c.testBit (kb set i)
def spr (c set : Nat) : Nat := ofB (sprB c set) 6
def ncol (set : Nat) : Nat := 2 ^ (pc 64 set - 1)
def cols (b : Bool) (set : Nat) : List Nat := colsN (pc 64 set) b (2 ^ pc 64 set)
def blkS (b : Bool) (set : Nat) : List Nat := (cols b set).map fun c => spr c set
def colS (b : Bool) (L : List Nat) : List Nat := L.flatMap (blkS b)
theorem colS_take (b : Bool) (L : List Nat) {q : Nat} (hq : q < L.length) : colS b (L.take (q + 1)) = colS b (L.take q) ++ blkS b L[q] := by
  unfold colS
  rw [List.take_succ_eq_append_getElem hq, List.flatMap_append]
  simp
/-- How many columns the first q sets have. -/
def offN (L : List Nat) : Nat → Nat
  | 0 => 0
  | q + 1 => offN L q + (if q < L.length then ncol (L.getD q 0) else 0)
theorem offN_succ (L : List Nat) {q : Nat} (hq : q < L.length) : offN L (q + 1) = offN L q + ncol (L.getD q 0) := by simp [offN, hq]
theorem offN_mono (L : List Nat) (q : Nat) : ∀ k, offN L q ≤ offN L (q + k)
  | 0 => Nat.le_refl _
  | k + 1 => Nat.le_trans (offN_mono L q k) (by rw [show q + (k + 1) = (q + k) + 1 by omega, offN]; exact Nat.le_add_right _ _)
theorem ncol_le {set : Nat} (h : set < 64) : ncol set ≤ 32 := by
  have h1 : pc 64 set ≤ 6 := by
    have e : pc 64 set = pc 6 (set % 2 ^ 6) + pc 58 (set / 2 ^ 6) := pc_add 6 58 set
    rw [Nat.div_eq_of_lt (show set < 2 ^ 6 from h), pc_zero] at e
    have := pc_le 6 (set % 2 ^ 6)
    omega
  unfold ncol
  exact Nat.le_trans (Nat.pow_le_pow_right (by decide) (show pc 64 set - 1 ≤ 5 by omega)) (by decide)
theorem offN_bound {L : List Nat} (h : ∀ j (hj : j < L.length), L[j] < 64) : ∀ q, q ≤ L.length → offN L q ≤ 32 * q
  | 0, _ => Nat.le_refl _
  | q + 1, hq => by
    have h1 := offN_bound h q (by omega)
    have hl : q < L.length := hq
    have h2 := ncol_le (h q hl)
    rw [offN_succ L hl]
    have e : L.getD q 0 = L[q] := by simp [hl]
    rw [e]
    omega
attribute [local irreducible] IntKind.wrap
theorem pbs_off {L : List Nat} (hl : L.length ≤ 64) (h : ∀ j (hj : j < L.length), L[j] < 64) : ∀ q, q ≤ L.length → pbs L q = ((offN L q : Nat) : Int)
  | 0, _ => rfl
  | q + 1, hq => by
    have hlt : q < L.length := hq
    have ih := pbs_off hl h q (by omega)
    have hb := offN_bound h q (by omega)
    have hn := ncol_le (h q hlt)
    have h5 : pc 64 L[q] - 1 < 62 := by
      have e : pc 64 L[q] = pc 6 (L[q] % 2 ^ 6) + pc 58 (L[q] / 2 ^ 6) := pc_add 6 58 _
      rw [Nat.div_eq_of_lt (show L[q] < 2 ^ 6 from h q hlt), pc_zero] at e
      have := pc_le 6 (L[q] % 2 ^ 6)
      omega
    have e : L.getD q 0 = L[q] := by simp [hlt]
    rw [pbs_succ L hlt, ih, offN_succ L hlt, e]
    unfold pbsS
    rw [shlI h5]
    unfold ncol at hn ⊢
    generalize 2 ^ (pc 64 L[q] - 1) = y at *
    rw [wrap_i64 (by omega) (by omega)]
    simp
/-- A set's columns, each spread. -/
def preS (b : Bool) (L : List Nat) (q k : Nat) : List Nat := colS b (L.take q) ++ ((cols b (L.getD q 0)).take k).map fun c => spr c (L.getD q 0)
theorem preS_zero (b : Bool) (L : List Nat) (q : Nat) : preS b L q 0 = colS b (L.take q) := by simp [preS]
theorem preS_succ {b : Bool} {L : List Nat} {q k : Nat} (hk : k < (cols b (L.getD q 0)).length) : preS b L q (k + 1) = preS b L q k ++ [spr ((cols b (L.getD q 0)).getD k 0) (L.getD q 0)] := by
  have e : (cols b (L.getD q 0)).getD k 0 = (cols b (L.getD q 0))[k] := by rw [List.getD_eq_getElem?_getD, List.getElem?_eq_getElem hk]; rfl
  unfold preS
  rw [e, List.take_succ_eq_append_getElem hk, List.map_append, List.append_assoc]
  rfl
theorem preS_all {b : Bool} {L : List Nat} {q : Nat} (hq : q < L.length) : preS b L q (cols b (L.getD q 0)).length = colS b (L.take (q + 1)) := by
  have e : L.getD q 0 = L[q] := by simp [hq]
  unfold preS
  rw [List.take_length, colS_take b L hq, e]
  rfl
section
variable {L : List Nat} (h64 : ∀ j (hj : j < L.length), L[j] < 64 ∧ L[j] ≠ 0) (h8 : offN L L.length ≤ 8)
include h64 h8
theorem pc_in {q : Nat} (hq : q < L.length) : 1 ≤ pc 64 (L.getD q 0) ∧ pc 64 (L.getD q 0) ≤ 4 := by
  have e : L.getD q 0 = L[q] := by simp [hq]
  have hm := offN_mono L (q + 1) (L.length - (q + 1))
  rw [show q + 1 + (L.length - (q + 1)) = L.length by omega, offN_succ L hq] at hm
  have h1 := h64 q hq
  rw [← e] at h1
  have hp := pc_pos 64 (L.getD q 0) h1.2 (by omega)
  refine ⟨hp, Nat.le_of_not_lt fun hc => ?_⟩
  have := Nat.pow_le_pow_right (n := 2) (by decide) (show 4 ≤ pc 64 (L.getD q 0) - 1 by omega)
  unfold ncol at hm
  omega
theorem cols_len {q : Nat} (b : Bool) (hq : q < L.length) : (cols b (L.getD q 0)).length = ncol (L.getD q 0) := by
  have h := pc_in h64 h8 hq
  exact colsN_size h.1 h.2 b
theorem colS_len (b : Bool) : ∀ q, q ≤ L.length → (colS b (L.take q)).length = offN L q
  | 0, _ => by simp [colS, offN]
  | q + 1, hq => by
    have hl : q < L.length := hq
    have e : L.getD q 0 = L[q] := by simp [hl]
    have hc := cols_len h64 h8 b hl
    rw [colS_take b L hl, List.length_append, colS_len b q (by omega), offN_succ L hl, ← hc, e]
    simp [blkS]
theorem colS_get {q k : Nat} (b : Bool) (hq : q < L.length) (hk : k < ncol (L.getD q 0)) : (colS b L).getD (offN L q + k) 0 = spr ((cols b (L.getD q 0)).getD k 0) (L.getD q 0) := by
  have e : L.getD q 0 = L[q] := by simp [hq]
  have hc := cols_len h64 h8 b hq
  have hl := colS_len h64 h8 b q (by omega)
  have hs : colS b L = colS b (L.take q) ++ (blkS b L[q] ++ colS b (L.drop (q + 1))) := by
    have h1 : L = L.take q ++ (L[q] :: L.drop (q + 1)) := by rw [← List.drop_eq_getElem_cons hq, List.take_append_drop]
    have h2 : colS b L = (L.take q ++ (L[q] :: L.drop (q + 1))).flatMap (blkS b) := by
      rw [← h1]
      rfl
    rw [h2, List.flatMap_append, List.flatMap_cons]
    rfl
  have hbl : (blkS b (L.getD q 0)).length = ncol (L.getD q 0) := by rw [← hc, blkS, List.length_map]
  have hck : k < (cols b (L.getD q 0)).length := by omega
  rw [hs, List.getD_eq_getElem?_getD, List.getElem?_append_right (by omega), hl, Nat.add_sub_cancel_left, ← e, List.getElem?_append_left (by omega)]
  unfold blkS
  have e2 : (cols b (L.getD q 0)).getD k 0 = (cols b (L.getD q 0))[k] := by rw [List.getD_eq_getElem?_getD, List.getElem?_eq_getElem hck]; rfl
  rw [List.getElem?_map, List.getElem?_eq_getElem hck, e2]
  rfl
end
end Go.Proofs.Ytfmamihoaklogaa.T
