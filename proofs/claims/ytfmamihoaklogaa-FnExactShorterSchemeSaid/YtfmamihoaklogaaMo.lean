/- Families that grow upward: what a set may see, all larger ones may (used by the claims of this seat). -/
import Derived.Test.YtfmamihoaklogaaF0
namespace Go.Proofs.Ytfmamihoaklogaa.T
open Go.RowKit
set_option linter.unusedVariables false

theorem shrI (i k : Nat) (hk : k < 64) : (i : Int) / 2 ^ min ((k : Nat) : Int).toNat IntKind.i64.bits = ((i / 2 ^ k : Nat) : Int) := by
  have e : min ((k : Nat) : Int).toNat IntKind.i64.bits = k := by simp [IntKind.bits]; omega
  rw [e]
  simp
theorem and1I {i : Nat} (h : i < 2 ^ 63) : bits .and .i64 (i : Int) 1 = ((i % 2 : Nat) : Int) := by
  rw [← Nat.and_one_is_mod]
  exact andI (b := 1) h (by decide)
theorem and1U {i : Nat} (h : i < 2 ^ 64) : bits .and .u64 (i : Int) 1 = ((i % 2 : Nat) : Int) := by
  rw [← Nat.and_one_is_mod]
  exact and64 (b := 1) h (by decide)
theorem tb0 (i k : Nat) : (((i / 2 ^ k % 2 : Nat) : Int) == 0) = !i.testBit k := by
  rw [Nat.testBit_eq_decide_div_mod_eq]
  rcases Nat.mod_two_eq_zero_or_one (i / 2 ^ k) with h | h <;> rw [h] <;> rfl
theorem tb1 (i k : Nat) : (((i / 2 ^ k % 2 : Nat) : Int) == 1) = i.testBit k := by
  rw [Nat.testBit_eq_decide_div_mod_eq]
  rcases Nat.mod_two_eq_zero_or_one (i / 2 ^ k) with h | h <;> rw [h] <;> rfl
theorem mod_succ_or (b i : Nat) : b % 2 ^ (i + 1) = b % 2 ^ i ||| (if b.testBit i then 2 ^ i else 0) := by
  apply Nat.eq_of_testBit_eq
  intro j
  rw [Nat.testBit_or, Nat.testBit_mod_two_pow, Nat.testBit_mod_two_pow]
  by_cases h : j = i
  · subst h
    cases hb : b.testBit j <;> simp
  · have h2 : (decide (j < i + 1)) = decide (j < i) := by
      rw [Bool.eq_iff_iff, decide_eq_true_eq, decide_eq_true_eq]
      omega
    rw [h2]
    have h3 : (if b.testBit i = true then 2 ^ i else 0).testBit j = false := by
      split
      · rw [Nat.testBit_two_pow]
        simp
        omega
      · simp
    rw [h3]
    simp
theorem up_steps {n x a b : Nat} (h : upAll n x = true) (ha : a < 2 ^ n) (hx : x.testBit a = true) : ∀ i, i ≤ n → x.testBit (a ||| b % 2 ^ i) = true
  | 0, _ => by simpa [Nat.mod_one] using hx
  | i + 1, hi => by
    have ih := up_steps (b := b) h ha hx i (by omega)
    have hlt : a ||| b % 2 ^ i < 2 ^ n := Nat.or_lt_two_pow ha (Nat.lt_of_lt_of_le (Nat.mod_lt _ (Nat.two_pow_pos i)) (Nat.pow_le_pow_right (by decide) (by omega)))
    rw [mod_succ_or, ← Nat.or_assoc]
    split
    · have := upAll_iff.1 h _ hlt i (by omega)
      simpa [upAt, ih] using this
    · simpa using ih
theorem up_mono {n x a b : Nat} (h : upAll n x = true) (hb : b < 2 ^ n) (hab : a ||| b = b) (hx : x.testBit a = true) : x.testBit b = true := by
  have ha : a < 2 ^ n := by
    refine Nat.lt_of_le_of_lt ?_ hb
    rw [← hab]
    exact Nat.left_le_or
  have := up_steps (b := b) h ha hx n (Nat.le_refl _)
  rwa [Nat.mod_eq_of_lt hb, hab] at this
theorem all_but {n k : Nat} (hk : k < n) (j : Nat) : (2 ^ n - 1 - 2 ^ k).testBit j = (decide (j < n) && !decide (j = k)) := by
  have h2 : 2 ^ k < 2 ^ n := Nat.pow_lt_pow_right (by decide) hk
  rw [Nat.sub_sub, Nat.add_comm 1, Nat.testBit_two_pow_sub_succ h2, Nat.testBit_two_pow]
  by_cases h : k = j
  · subst h
    simp
  · have : ¬ j = k := fun e => h e.symm
    simp [h, this]
theorem all_but_lt (n k : Nat) : 2 ^ n - 1 - 2 ^ k < 2 ^ n := by
  have h1 := Nat.sub_le (2 ^ n - 1) (2 ^ k)
  have hpos : 1 ≤ 2 ^ n := Nat.one_le_two_pow
  omega
/-- Does each set that may see have bit k? -/
theorem needed_iff {n x k : Nat} (h : upAll n x = true) (hk : k < n) : x.testBit (2 ^ n - 1 - 2 ^ k) = false ↔ ∀ set, set < 2 ^ n → x.testBit set = true → set.testBit k = true := by
  have hpos : 1 ≤ 2 ^ n := Nat.one_le_two_pow
  constructor
  · intro h0 set hs hx
    cases hb : set.testBit k with
    | true => rfl
    | false =>
      exfalso
      have : x.testBit (2 ^ n - 1 - 2 ^ k) = true := up_mono h (all_but_lt n k) (by
        apply Nat.eq_of_testBit_eq
        intro j
        rw [Nat.testBit_or, all_but hk]
        by_cases hj : j < n
        · by_cases hjk : j = k
          · subst hjk
            simp [hb]
          · simp [hj, hjk]
        · have : set.testBit j = false := Nat.testBit_lt_two_pow (Nat.lt_of_lt_of_le hs (Nat.pow_le_pow_right (by decide) (by omega)))
          simp [hj, this]) hx
      rw [h0] at this
      cases this
  · intro hall
    cases hx : x.testBit (2 ^ n - 1 - 2 ^ k) with
    | false => rfl
    | true =>
      have := hall _ (all_but_lt n k) hx
      rw [all_but hk] at this
      simp at this
end Go.Proofs.Ytfmamihoaklogaa.T
