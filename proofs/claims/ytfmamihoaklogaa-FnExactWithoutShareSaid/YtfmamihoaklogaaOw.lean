/- The sets of the other shares, made sets of all shares (used by the claims of this seat). -/
import Derived.Test.YtfmamihoaklogaaAa
namespace Go.Proofs.Ytfmamihoaklogaa.T
open Go.RowKit
set_option linter.unusedVariables false

/-- A set of the other shares, with a share's bit w put in at s. -/
def ownS (s w set : Nat) : Nat := ((set % 2 ^ s) ||| (set / 2 ^ s * 2 ^ (s + 1))) ||| (w * 2 ^ s)
def ownChk (set s : Nat) : Bool :=
  (bits .and .i64 ((set : Nat) : Int) ((2 ^ s - 1 : Nat) : Int) == ((set % 2 ^ s : Nat) : Int)) &&
  ((bits .andNot .i64 ((set : Nat) : Int) ((2 ^ s - 1 : Nat) : Int) == ((set / 2 ^ s * 2 ^ s : Nat) : Int)) &&
  ((bits .xor .i64 ((set : Nat) : Int) ((set % 2 ^ s : Nat) : Int) == ((set / 2 ^ s * 2 ^ s : Nat) : Int)) &&
  ((IntKind.i64.wrap (((set / 2 ^ s * 2 ^ s : Nat) : Int) * 2 ^ min ((1 : Int)).toNat IntKind.i64.bits) == ((set / 2 ^ s * 2 ^ (s + 1) : Nat) : Int)) &&
  ((bits .or .i64 ((set % 2 ^ s : Nat) : Int) ((set / 2 ^ s * 2 ^ (s + 1) : Nat) : Int) == (((set % 2 ^ s) ||| (set / 2 ^ s * 2 ^ (s + 1)) : Nat) : Int)) &&
  ((bits .or .i64 (((set % 2 ^ s) ||| (set / 2 ^ s * 2 ^ (s + 1)) : Nat) : Int) ((2 ^ s : Nat) : Int) == ((ownS s 1 set : Nat) : Int)) &&
  (bits .or .i64 (((set % 2 ^ s) ||| (set / 2 ^ s * 2 ^ (s + 1)) : Nat) : Int) ((0 : Nat) : Int) == ((ownS s 0 set : Nat) : Int)))))))
theorem own_all : ((List.range 32).all fun set => (List.range 6).all fun s => ownChk set s) = true := by decide +kernel
theorem own_lt_all : ((List.range 7).all fun n => (List.range (2 ^ (n - 1))).all fun set => (List.range n).all fun s => decide (ownS s 0 set < 2 ^ n) && decide (ownS s 1 set < 2 ^ n)) = true := by decide +kernel
structure OwnEqs (set s : Nat) : Prop where
  a1 : bits .and .i64 ((set : Nat) : Int) ((2 ^ s - 1 : Nat) : Int) = ((set % 2 ^ s : Nat) : Int)
  a2 : bits .andNot .i64 ((set : Nat) : Int) ((2 ^ s - 1 : Nat) : Int) = ((set / 2 ^ s * 2 ^ s : Nat) : Int)
  a3 : bits .xor .i64 ((set : Nat) : Int) ((set % 2 ^ s : Nat) : Int) = ((set / 2 ^ s * 2 ^ s : Nat) : Int)
  a4 : IntKind.i64.wrap (((set / 2 ^ s * 2 ^ s : Nat) : Int) * 2 ^ min ((1 : Int)).toNat IntKind.i64.bits) = ((set / 2 ^ s * 2 ^ (s + 1) : Nat) : Int)
  a5 : bits .or .i64 ((set % 2 ^ s : Nat) : Int) ((set / 2 ^ s * 2 ^ (s + 1) : Nat) : Int) = (((set % 2 ^ s) ||| (set / 2 ^ s * 2 ^ (s + 1)) : Nat) : Int)
  a6 : bits .or .i64 (((set % 2 ^ s) ||| (set / 2 ^ s * 2 ^ (s + 1)) : Nat) : Int) ((2 ^ s : Nat) : Int) = ((ownS s 1 set : Nat) : Int)
  a7 : bits .or .i64 (((set % 2 ^ s) ||| (set / 2 ^ s * 2 ^ (s + 1)) : Nat) : Int) ((0 : Nat) : Int) = ((ownS s 0 set : Nat) : Int)
theorem own_eqs {set s : Nat} (h1 : set < 32) (h2 : s < 6) : OwnEqs set s := by
  have := List.all_eq_true.1 (List.all_eq_true.1 own_all set (List.mem_range.2 h1)) s (List.mem_range.2 h2)
  unfold ownChk at this
  simp only [Bool.and_eq_true, beq_iff_eq] at this
  exact ⟨this.1, this.2.1, this.2.2.1, this.2.2.2.1, this.2.2.2.2.1, this.2.2.2.2.2.1, this.2.2.2.2.2.2⟩
theorem own_lt {n set s w : Nat} (hn : n ≤ 6) (hset : set < 2 ^ (n - 1)) (hs : s < n) (hw : w < 2) : ownS s w set < 2 ^ n := by
  have := List.all_eq_true.1 (List.all_eq_true.1 (List.all_eq_true.1 own_lt_all n (List.mem_range.2 (by omega))) set (List.mem_range.2 hset)) s (List.mem_range.2 hs)
  simp only [Bool.and_eq_true, decide_eq_true_eq] at this
  have : w = 0 ∨ w = 1 := by omega
  rcases this with rfl | rfl
  · exact this.1
  · exact this.2
end Go.Proofs.Ytfmamihoaklogaa.T
