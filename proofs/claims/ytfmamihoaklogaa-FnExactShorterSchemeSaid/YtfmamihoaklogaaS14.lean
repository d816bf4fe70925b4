/- Schemes by sets, the program's side: what the rows come to (used by the claims of this seat). -/
import Derived.Test.YtfmamihoaklogaaS13
import Derived.Test.YtfmamihoaklogaaS4
namespace Go.Proofs.Ytfmamihoaklogaa.T
open Go.RowKit
set_option linter.unusedVariables false
set_option maxRecDepth 100000
attribute [local irreducible] pc IntKind.wrap bits

/-- A scheme while the rows of a colour are made, the other colour's rows standing. -/
def SQ (n p : Int) (g : Nat → Nat) (black : Bool) (f : Nat → Nat) : Array Value := cond black (sch n p g f) (sch n p f g)
section
variable {n p : Int} {g f : Nat → Nat} {black : Bool}
theorem SQ_size : (SQ n p g black f).size = 14 := by cases black <;> exact sch_size
theorem SQ_get {i : Nat} (hi : i < 6) : (SQ n p g black f)[rowOff black + ((i : Nat) : Int).toNat * 1]? = some (.int .u8 ((f i : Nat) : Int)) := by
  cases black
  · exact sch_w hi
  · exact sch_b hi
theorem SQ_p : (SQ n p g black f)[0 + 1]? = some (.int .i8 p) := by cases black <;> exact sch_p
theorem SQ_set {i v : Nat} (hi : i < 6) : (SQ n p g black f).setIfInBounds (rowOff black + ((i : Nat) : Int).toNat * 1) (.int .u8 ((v : Nat) : Int)) = SQ n p g black (put1 f i v) := by
  cases black
  · exact sch_setw hi
  · exact sch_setb hi
end
/-- The scheme between the colours of one set: none, the white, both made. -/
def cellsQ (n p : Int) (W0 B0 W1 B1 : Nat → Nat) : Nat → Array Value
  | 0 => sch n p W0 B0
  | 1 => sch n p W1 B0
  | _ => sch n p W1 B1
theorem cellsQ_in {n p : Int} {W0 B0 W1 B1 : Nat → Nat} {ci : Nat} {b : Bool} (h : ci = 0 ∧ b = false ∨ ci = 1 ∧ b = true) :
    cellsQ n p W0 B0 W1 B1 ci = SQ n p (cond b W1 B0) b (cond b B0 W0) ∧ cellsQ n p W0 B0 W1 B1 (ci + 1) = SQ n p (cond b W1 B0) b (cond b B1 W1) := by
  rcases h with ⟨rfl, rfl⟩ | ⟨rfl, rfl⟩
  · exact ⟨rfl, rfl⟩
  · exact ⟨rfl, rfl⟩
theorem cellsQ_zero (n p : Int) (W0 B0 W1 B1 : Nat → Nat) : cellsQ n p W0 B0 W1 B1 0 = sch n p W0 B0 := rfl
theorem cellsQ_two (n p : Int) (W0 B0 W1 B1 : Nat → Nat) : cellsQ n p W0 B0 W1 B1 2 = sch n p W1 B1 := rfl
attribute [irreducible] SQ cellsQ
/-- The rows while the column K is taken up. -/
theorem frM_same {C : List Nat} {n k i : Nat} (h : i < n) (hb : frB C i k = false) : frM C n k (i + 1) = frM C n k i := by
  rw [← frM_put h, ofB_f hb]
  exact put1_same (frM_at h)
theorem frB_at {L : List Nat} {b : Bool} {q k i : Nat} (h64 : ∀ j (hj : j < L.length), L[j] < 64 ∧ L[j] ≠ 0) (h8 : offN L L.length ≤ 8) (hq : q < L.length) (hk : k < ncol (L.getD q 0)) (hi : i < 6) :
    frB (colS b L) i (offN L q + k) = ((L.getD q 0).testBit i && ((cols b (L.getD q 0)).getD k 0).testBit (kb (L.getD q 0) i)) := by
  unfold frB
  rw [colS_get h64 h8 b hq hk]
  unfold spr
  rw [testBit_ofB, decide_eq_true hi, Bool.true_and]
  rfl
theorem kb_zero (set : Nat) : kb set 0 = 0 := rfl
theorem kb_succ (set i : Nat) : kb set (i + 1) = kb set i + (set.testBit i).toNat := rfl
theorem off_le {L : List Nat} {q : Nat} (h8 : offN L L.length ≤ 8) (hq : q < L.length) : offN L q + ncol (L.getD q 0) ≤ 8 := by
  have hm := offN_mono L (q + 1) (L.length - (q + 1))
  rw [show q + 1 + (L.length - (q + 1)) = L.length by omega, offN_succ L hq] at hm
  omega
end Go.Proofs.Ytfmamihoaklogaa.T
