/- Bits of numbers, as lists of answers (used by the claims of this seat). -/
import Derived.WalkKit
namespace Go.Proofs.Ytfmamihoaklogaa.T
open Go.RowKit
set_option linter.unusedVariables false
set_option linter.unusedSimpArgs false
def ofB (f : Nat → Bool) : Nat → Nat
  | 0 => 0
  | n + 1 => ofB f n ||| (if f n then 2 ^ n else 0)
theorem testBit_ofB (f : Nat → Bool) (n i : Nat) : (ofB f n).testBit i = (decide (i < n) && f i) := by
  induction n with
  | zero => simp [ofB]
  | succ n ih =>
    simp only [ofB, Nat.testBit_or, ih]
    by_cases hi : i = n
    · subst hi
      by_cases h : f i <;> simp [h]
    · have e : decide (i < n + 1) = decide (i < n) := by simp; omega
      rw [e]
      by_cases h : f n
      · simp only [h, if_true, Nat.testBit_two_pow]
        have : decide (n = i) = false := by simp; omega
        rw [this]; simp
      · simp [h]
theorem ofB_lt (f : Nat → Bool) (n : Nat) : ofB f n < 2 ^ n := by
  induction n with
  | zero => simp [ofB]
  | succ n ih =>
    simp only [ofB]
    apply Nat.or_lt_two_pow
    · exact Nat.lt_of_lt_of_le ih (Nat.pow_le_pow_right (by decide) (by omega))
    · split
      · exact Nat.pow_lt_pow_right (by decide) (by omega)
      · exact Nat.two_pow_pos _
theorem ofB_le {f : Nat → Bool} {n k : Nat} (h : n ≤ k) : ofB f n < 2 ^ k := Nat.lt_of_lt_of_le (ofB_lt f n) (Nat.pow_le_pow_right (by decide) h)
theorem ofB_congr {f g : Nat → Bool} {n : Nat} (h : ∀ i, i < n → f i = g i) : ofB f n = ofB g n := by
  induction n with
  | zero => rfl
  | succ n ih => simp only [ofB]; rw [ih (fun i hi => h i (by omega)), h n (by omega)]
theorem ofB_testBit {x n : Nat} (h : x < 2 ^ n) : ofB x.testBit n = x := by
  apply Nat.eq_of_testBit_eq
  intro i
  rw [testBit_ofB]
  by_cases hi : i < n
  · simp [hi]
  · rw [Nat.testBit_lt_two_pow (x := x) (i := i) (Nat.lt_of_lt_of_le h (Nat.pow_le_pow_right (by decide) (by omega)))]; simp [hi]
theorem ofB_t {f : Nat → Bool} {n : Nat} (h : f n = true) : ofB f (n + 1) = ofB f n ||| 2 ^ n := by simp [ofB, h]
theorem ofB_f {f : Nat → Bool} {n : Nat} (h : f n = false) : ofB f (n + 1) = ofB f n := by simp [ofB, h]

/-! ### Kinds of numbers -/
theorem wrap_u64 {n : Int} (h0 : 0 ≤ n) (h1 : n < 18446744073709551616) : IntKind.u64.wrap n = n := by
  simp [IntKind.wrap, IntKind.bits, IntKind.signed]; omega
theorem wrap_u32 {n : Int} (h0 : 0 ≤ n) (h1 : n < 4294967296) : IntKind.u32.wrap n = n := by
  simp [IntKind.wrap, IntKind.bits, IntKind.signed]; omega
theorem wrap_u8 {n : Int} (h0 : 0 ≤ n) (h1 : n < 256) : IntKind.u8.wrap n = n := by
  simp [IntKind.wrap, IntKind.bits, IntKind.signed]; omega
theorem wrap_i64 {n : Int} (h0 : -9223372036854775808 ≤ n) (h1 : n < 9223372036854775808) : IntKind.i64.wrap n = n := by
  rw [IntKind.wrap_i64]; omega
theorem wrap_i8 {n : Int} (h0 : -128 ≤ n) (h1 : n < 128) : IntKind.i8.wrap n = n := by
  simp [IntKind.wrap, IntKind.bits, IntKind.signed]; omega
theorem bnd64 {x : Nat} (h : x < 2 ^ 64) : (x : Int) < 18446744073709551616 := by
  have : (2 : Nat) ^ 64 = 18446744073709551616 := by decide
  omega
theorem wraps_u64 (n : Int) (h0 : 0 ≤ n) (h1 : n < 2 ^ 64) : IntKind.u64.wrap n = n := wrap_u64 h0 (by
  have : (2 : Int) ^ 64 = 18446744073709551616 := by decide
  omega)
theorem and64 {a b : Nat} (ha : a < 2 ^ 64) (hb : b < 2 ^ 64) : bits .and .u64 a b = ((a &&& b : Nat) : Int) := (bits_nat .u64 64 (by decide) wraps_u64 a b ha hb).1
theorem or64 {a b : Nat} (ha : a < 2 ^ 64) (hb : b < 2 ^ 64) : bits .or .u64 a b = ((a ||| b : Nat) : Int) := (bits_nat .u64 64 (by decide) wraps_u64 a b ha hb).2
theorem and8 {a b : Nat} (ha : a < 2 ^ 8) (hb : b < 2 ^ 8) : bits .and .u8 a b = ((a &&& b : Nat) : Int) := (bits_nat .u8 8 (by decide) wraps_u8 a b ha hb).1
theorem or8 {a b : Nat} (ha : a < 2 ^ 8) (hb : b < 2 ^ 8) : bits .or .u8 a b = ((a ||| b : Nat) : Int) := (bits_nat .u8 8 (by decide) wraps_u8 a b ha hb).2
theorem wraps_i64 (n : Int) (h0 : 0 ≤ n) (h1 : n < 2 ^ 63) : IntKind.i64.wrap n = n := wrap_i64 (by omega) (by
  have : (2 : Int) ^ 63 = 9223372036854775808 := by decide
  omega)
theorem andI {a b : Nat} (ha : a < 2 ^ 63) (hb : b < 2 ^ 63) : bits .and .i64 a b = ((a &&& b : Nat) : Int) := (bits_nat .i64 63 (by decide) wraps_i64 a b ha hb).1
theorem orI {a b : Nat} (ha : a < 2 ^ 63) (hb : b < 2 ^ 63) : bits .or .i64 a b = ((a ||| b : Nat) : Int) := (bits_nat .i64 63 (by decide) wraps_i64 a b ha hb).2
theorem shl64 {i : Nat} (h : i < 64) : IntKind.u64.wrap (1 * 2 ^ min ((i : Nat) : Int).toNat IntKind.u64.bits) = ((2 ^ i : Nat) : Int) := by
  have e : min ((i : Nat) : Int).toNat IntKind.u64.bits = i := by simp [IntKind.bits]; omega
  have h2 : 2 ^ i < 2 ^ 64 := Nat.pow_lt_pow_right (by decide) h
  rw [e, Int.one_mul]
  have hc : ((2 : Int) ^ i) = ((2 ^ i : Nat) : Int) := by simp
  rw [hc]
  exact wrap_u64 (Int.natCast_nonneg _) (bnd64 h2)
theorem shlI {i : Nat} (h : i < 62) : IntKind.i64.wrap (1 * 2 ^ min ((i : Nat) : Int).toNat IntKind.i64.bits) = ((2 ^ i : Nat) : Int) := by
  have e : min ((i : Nat) : Int).toNat IntKind.i64.bits = i := by simp [IntKind.bits]; omega
  have h2 : 2 ^ i < 2 ^ 62 := Nat.pow_lt_pow_right (by decide) h
  have h3 : (2 : Nat) ^ 62 = 4611686018427387904 := by decide
  rw [e, Int.one_mul]
  have hc : ((2 : Int) ^ i) = ((2 ^ i : Nat) : Int) := by simp
  rw [hc]
  generalize 2 ^ i = y at h2 ⊢
  exact wrap_i64 (by omega) (by omega)
theorem shr64 (x i : Nat) (h : i < 64) : ((x : Nat) : Int) / 2 ^ min ((i : Nat) : Int).toNat IntKind.u64.bits = ((x / 2 ^ i : Nat) : Int) := by
  have e : min ((i : Nat) : Int).toNat IntKind.u64.bits = i := by simp [IntKind.bits]; omega
  rw [e]
  simp
/-- Bit i of x, as the program asks for it. -/
theorem bit64 {x i : Nat} (hx : x < 2 ^ 64) (hi : i < 64) : (bits .and .u64 (((x : Nat) : Int) / 2 ^ min ((i : Nat) : Int).toNat IntKind.u64.bits) 1 == 1) = x.testBit i := by
  rw [shr64 x i hi]
  have hd : x / 2 ^ i < 2 ^ 64 := Nat.lt_of_le_of_lt (Nat.div_le_self _ _) hx
  have c : bits .and .u64 ((x / 2 ^ i : Nat) : Int) 1 = ((x / 2 ^ i &&& 1 : Nat) : Int) := and64 (b := 1) hd (by decide)
  rw [c, Nat.and_one_is_mod, Nat.testBit_eq_decide_div_mod_eq]
  generalize x / 2 ^ i = y
  rw [Bool.eq_iff_iff, beq_iff_eq, decide_eq_true_eq]
  omega
end Go.Proofs.Ytfmamihoaklogaa.T
