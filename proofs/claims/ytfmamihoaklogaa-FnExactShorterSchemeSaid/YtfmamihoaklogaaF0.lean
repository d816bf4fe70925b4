/- What a valid family is, in numbers (used by the claims of this seat). -/
import Derived.Test.YtfmamihoaklogaaMa
namespace Go.Proofs.Ytfmamihoaklogaa.T
open Go.RowKit
set_option linter.unusedVariables false

def upAt (n x set i : Nat) : Bool := !x.testBit set || x.testBit (set ||| 2 ^ i)
def upAll (n x : Nat) : Bool := (List.range (2 ^ n)).all fun set => (List.range n).all fun i => upAt n x set i
def famOk (n x : Nat) : Bool := decide (x < 2 ^ 2 ^ n) && (x.testBit (2 ^ n - 1) && (!x.testBit 0 && upAll n x))
def okFam (s : Int) (x : Nat) : Bool := decide (1 ≤ s ∧ s ≤ 6) && famOk s.toNat x
theorem upAll_iff {n x : Nat} : upAll n x = true ↔ ∀ set, set < 2 ^ n → ∀ i, i < n → upAt n x set i = true := by
  simp [upAll, List.all_eq_true, List.mem_range]
theorem okFam_out {s : Int} {x : Nat} (h : ¬ (1 ≤ s ∧ s ≤ 6)) : okFam s x = false := by simp [okFam, h]
theorem okFam_in {n x : Nat} (h1 : 1 ≤ n) (h6 : n ≤ 6) : okFam (n : Int) x = famOk n x := by
  have : (1 : Int) ≤ n ∧ (n : Int) ≤ 6 := by omega
  simp [okFam, this]
theorem pow_le {sn : Nat} (h : sn ≤ 6) : 2 ^ sn ≤ 64 := by
  have := Nat.pow_le_pow_right (n := 2) (by decide) h
  omega
theorem or_lt {set i n : Nat} (h : set < 2 ^ n) (hi : i < n) : set ||| 2 ^ i < 2 ^ n := Nat.or_lt_two_pow h (Nat.pow_lt_pow_right (by decide) hi)
theorem two_le_pow (n : Nat) : 1 ≤ 2 ^ n := Nat.one_le_two_pow
end Go.Proofs.Ytfmamihoaklogaa.T
