/- Schemes by others, the program's side (used by the claims of this seat). -/
import Derived.Test.YtfmamihoaklogaaS1
import Derived.Test.YtfmamihoaklogaaF11
namespace Go.Proofs.Ytfmamihoaklogaa.T
open Go.RowKit
set_option linter.unusedVariables false
set_option maxRecDepth 100000
set_option maxHeartbeats 4000000
attribute [local irreducible] pc IntKind.wrap bits

/-- The bit of a column for the others at a share. -/
def colB (O : List Nat) (i c : Nat) : Nat → Bool := fun j => !(O.getD j 0).testBit i && c.testBit j
def colAny (O : List Nat) (i c : Nat) : Nat → Bool
  | 0 => false
  | j + 1 => colAny O i c j || colB O i c j
/-- A share's row, of the first columns. -/
def rowB (O C : List Nat) (i : Nat) : Nat → Bool := fun k => colAny O i (C.getD k 0) O.length
def setK (b : Bool) (k : Nat) : Nat := if b = true then 2 ^ k else 0
theorem setK_or (a b : Bool) (k : Nat) : setK a k ||| setK b k = setK (a || b) k := by
  cases a <;> cases b <;> simp [setK]
theorem setK_lt {b : Bool} {k : Nat} (hk : k < 8) : setK b k < 2 ^ 8 := by
  have h2 : 2 ^ k < 2 ^ 8 := Nat.pow_lt_pow_right (by decide) hk
  cases b
  · exact Nat.two_pow_pos _
  · exact h2
def anyAt (O C : List Nat) (k j i s : Nat) : Bool := cond (decide (s < i)) (colAny O s (C.getD k 0) (j + 1)) (colAny O s (C.getD k 0) j)
theorem anyAt_lt {O C : List Nat} {k j i s : Nat} (h : s < i) : anyAt O C k j i s = colAny O s (C.getD k 0) (j + 1) := by simp [anyAt, h]
theorem anyAt_ge {O C : List Nat} {k j i s : Nat} (h : ¬ s < i) : anyAt O C k j i s = colAny O s (C.getD k 0) j := by simp [anyAt, h]
/-- The row while the part k is made: of the others before j, and of j's shares before i. -/
def mixR (O C : List Nat) (n k j i : Nat) : Nat → Nat := fun s => if s < n then ofB (rowB O C s) k ||| setK (anyAt O C k j i s) k else 0
def rowX (O C : List Nat) (n k : Nat) : Nat → Nat := fun s => if s < n then ofB (rowB O C s) k else 0
theorem rowX_zero (O C : List Nat) (n : Nat) : rowX O C n 0 = fun _ => 0 := by
  funext s
  simp [rowX, ofB]
theorem mixR_in {O C : List Nat} {n k j i s : Nat} (h : s < n) : mixR O C n k j i s = ofB (rowB O C s) k ||| setK (anyAt O C k j i s) k := by simp [mixR, h]
theorem mixR_out {O C : List Nat} {n k j i s : Nat} (h : ¬ s < n) : mixR O C n k j i s = 0 := by simp [mixR, h]
theorem rowX_in {O C : List Nat} {n k s : Nat} (h : s < n) : rowX O C n k s = ofB (rowB O C s) k := by simp [rowX, h]
theorem rowX_out {O C : List Nat} {n k s : Nat} (h : ¬ s < n) : rowX O C n k s = 0 := by simp [rowX, h]
theorem mixR_begin (O C : List Nat) (n k : Nat) : mixR O C n k 0 0 = rowX O C n k := by
  funext s
  by_cases h : s < n
  · rw [mixR_in h, rowX_in h, anyAt_ge (Nat.not_lt_zero _)]
    simp [colAny, setK]
  · rw [mixR_out h, rowX_out h]
theorem mixR_next (O C : List Nat) (n k j : Nat) : mixR O C n k j n = mixR O C n k (j + 1) 0 := by
  funext s
  by_cases h : s < n
  · rw [mixR_in h, mixR_in h, anyAt_lt h, anyAt_ge (Nat.not_lt_zero _)]
  · rw [mixR_out h, mixR_out h]
theorem mixR_end (O C : List Nat) (n k : Nat) : mixR O C n k O.length 0 = rowX O C n (k + 1) := by
  funext s
  by_cases h : s < n
  · rw [mixR_in h, rowX_in h, anyAt_ge (Nat.not_lt_zero _)]
    rfl
  · rw [mixR_out h, rowX_out h]
theorem mixR_lt {O C : List Nat} {n k j i s : Nat} (hk : k < 8) : mixR O C n k j i s < 2 ^ 8 := by
  by_cases h : s < n
  · rw [mixR_in h]
    exact Nat.or_lt_two_pow (ofB_le (by omega)) (setK_lt hk)
  · rw [mixR_out h]
    exact Nat.two_pow_pos _
/-- One step: the row of the share i takes up the bit of the other j. -/
theorem mixR_step {O C : List Nat} {n k j i : Nat} (hi : i < n) : mixR O C n k j (i + 1) = put1 (mixR O C n k j i) i (mixR O C n k j i i ||| setK (colB O i (C.getD k 0) j) k) := by
  funext s
  unfold put1
  by_cases e : s = i
  · subst e
    rw [if_pos rfl, mixR_in hi, mixR_in hi, anyAt_lt (Nat.lt_succ_self _), anyAt_ge (Nat.lt_irrefl _), Nat.or_assoc, setK_or]
    rfl
  · rw [if_neg e]
    by_cases h : s < n
    · rw [mixR_in h, mixR_in h]
      congr 2
      by_cases h2 : s < i
      · rw [anyAt_lt h2, anyAt_lt (Nat.lt_succ_of_lt h2)]
      · rw [anyAt_ge h2, anyAt_ge (by omega)]
    · rw [mixR_out h, mixR_out h]
attribute [irreducible] mixR rowX
end Go.Proofs.Ytfmamihoaklogaa.T
