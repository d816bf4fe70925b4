/- The made columns' rows are the rows by the others (used by the claims of this seat). -/
import Derived.Test.YtfmamihoaklogaaS7
namespace Go.Proofs.Ytfmamihoaklogaa.T
open Go.RowKit
set_option linter.unusedVariables false

/-- The columns made for all shares. -/
def madeC (O : List Nat) (n : Nat) (C : List Nat) : List Nat := C.map fun c => ofB (outF O c) n
theorem madeC_len (O : List Nat) (n : Nat) (C : List Nat) : (madeC O n C).length = C.length := by simp [madeC]
theorem frX_made (O C : List Nat) (n : Nat) : frX (madeC O n C) n C.length = rowX O C n C.length := by
  funext s
  unfold frX
  by_cases h : s < n
  · rw [if_pos h, rowX_in h]
    refine ofB_congr fun k hk => ?_
    have e : (madeC O n C).getD k 0 = ofB (outF O (C.getD k 0)) n := by simp [madeC, hk]
    unfold frB rowB
    rw [e, testBit_ofB, decide_eq_true h, Bool.true_and]
    rfl
  · rw [if_neg h, rowX_out h]
end Go.Proofs.Ytfmamihoaklogaa.T
