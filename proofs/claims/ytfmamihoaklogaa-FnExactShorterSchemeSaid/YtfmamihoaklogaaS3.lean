/- Schemes by others, the program's side, walked (used by the claims of this seat). -/
import Derived.Test.YtfmamihoaklogaaS2
import Derived.Test.YtfmamihoaklogaaRa
namespace Go.Proofs.Ytfmamihoaklogaa.T
open Go.RowKit
set_option linter.unusedVariables false
set_option maxRecDepth 100000
set_option maxHeartbeats 4000000
attribute [local irreducible] pc

theorem colsN_chk : ([1, 2, 3, 4].all fun m => [false, true].all fun b => Nat.beq (colsN m b (2 ^ m)).length (2 ^ (m - 1))) = true := by decide +kernel
theorem colsN_size {m : Nat} (h1 : 1 ≤ m) (h4 : m ≤ 4) (b : Bool) : (colsN m b (2 ^ m)).length = 2 ^ (m - 1) := by
  have hm : m ∈ [1, 2, 3, 4] := by simp; omega
  have hb : b ∈ [false, true] := by cases b <;> simp
  exact Nat.eq_of_beq_eq_true (List.all_eq_true.1 (List.all_eq_true.1 colsN_chk m hm) b hb)
theorem colsN_lt {m : Nat} {b : Bool} {c : Nat} (h : c ∈ colsN m b (2 ^ m)) : c < 2 ^ m := List.mem_range.1 (List.mem_filter.1 h).1
/-- A scheme while the rows of a colour are made. -/
def SR (n p : Int) (Wf : Nat → Nat) (black : Bool) (f : Nat → Nat) : Array Value := cond black (sch n p Wf f) (sch n p f (fun _ => 0))
section
variable {n p : Int} {Wf f : Nat → Nat} {black : Bool}
theorem SR_size : (SR n p Wf black f).size = 14 := by cases black <;> exact sch_size
theorem SR_get {i : Nat} (hi : i < 6) : (SR n p Wf black f)[rowOff black + ((i : Nat) : Int).toNat * 1]? = some (.int .u8 ((f i : Nat) : Int)) := by
  cases black
  · exact sch_w hi
  · exact sch_b hi
theorem SR_set {i v : Nat} (hi : i < 6) : (SR n p Wf black f).setIfInBounds (rowOff black + ((i : Nat) : Int).toNat * 1) (.int .u8 ((v : Nat) : Int)) = SR n p Wf black (put1 f i v) := by
  cases black
  · exact sch_setw hi
  · exact sch_setb hi
theorem SR_off {i : Nat} (hi : i < 6) : rowOff black + ((i : Nat) : Int).toNat * 1 < 14 := by
  cases black <;> simp [rowOff] <;> omega
end
attribute [irreducible] SR
def byO (O : List Nat) (n : Nat) (b : Bool) : Nat → Nat := rowX O (colsN O.length b (2 ^ O.length)) n (2 ^ (O.length - 1))
theorem shl_i8 {k : Nat} (h : k ≤ 3) : IntKind.i8.wrap (1 * 2 ^ min ((k : Nat) : Int).toNat IntKind.i8.bits) = ((2 ^ k : Nat) : Int) := by
  have : k = 0 ∨ k = 1 ∨ k = 2 ∨ k = 3 := by omega
  rcases this with rfl | rfl | rfl | rfl <;> decide
end Go.Proofs.Ytfmamihoaklogaa.T
