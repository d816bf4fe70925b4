/- Proved: for every picture and every two numbers the program's BlackAt and the reference's BlackAt answer the same. No condition. -/
import Derived.Test.YtkkkjmppbladeaaPFnExactBlackAtx1
namespace Go.Proofs.Ytkkkjmppbladeaa.Pure
open Go.RowKit Go.Proofs.Ytkkkjmppbladeaa.PFnExactBlackAt Go.Proofs.YtkkkjmppbladeaaW.PrintWords Go.Proofs.YtkkkjmppbladeaaW.PrintLast Go.Proofs.YtkkkjmppbladeaaW.PrintMore

theorem and_shift (p i : Nat) (hp : p < 2 ^ 64) (hi : i < 64) :
    (Go.bits .and .u64 (p : Int) (shl .u64 1 (i : Int)) != 0) = (Go.bits .and .u64 (shr .u64 (p : Int) (i : Int)) 1 == 1) := by
  have hw : ∀ n : Int, 0 ≤ n → n < 2 ^ 64 → IntKind.u64.wrap n = n := by
    intro n h0 h1
    simp [IntKind.wrap, IntKind.bits, IntKind.signed]
    omega
  have h2 : 2 ^ i < 2 ^ 64 := Nat.pow_lt_pow_right (by decide) hi
  have e1 : shl .u64 1 (i : Int) = ((2 ^ i : Nat) : Int) := by
    unfold shl
    have : min (i : Int).toNat IntKind.u64.bits = i := by simp [IntKind.bits]; omega
    rw [this, Int.one_mul]
    have hc : ((2 : Int) ^ i) = ((2 ^ i : Nat) : Int) := by simp
    rw [hc, hw _ (Int.natCast_nonneg _) (by exact_mod_cast h2)]
  have e2 : shr .u64 (p : Int) (i : Int) = ((p / 2 ^ i : Nat) : Int) := by
    unfold shr
    have : min (i : Int).toNat IntKind.u64.bits = i := by simp [IntKind.bits]; omega
    rw [this]
    simp
  have hd : p / 2 ^ i < 2 ^ 64 := Nat.lt_of_le_of_lt (Nat.div_le_self _ _) hp
  have c1 := (bits_nat .u64 64 (by decide) hw p (2 ^ i) hp h2).1
  have c2 := (bits_nat .u64 64 (by decide) hw (p / 2 ^ i) 1 hd (by decide)).1
  rw [e1, e2, c1]
  have c2' : Go.bits .and .u64 ((p / 2 ^ i : Nat) : Int) 1 = ((p / 2 ^ i &&& 1 : Nat) : Int) := c2
  rw [c2']
  have k1 : p &&& 2 ^ i = 2 ^ i * (p.testBit i).toNat := by
    apply Nat.eq_of_testBit_eq
    intro j
    rw [Nat.testBit_and, Nat.testBit_two_pow]
    by_cases hj : i = j
    · subst hj
      cases h : p.testBit i <;> simp
    · cases h : p.testBit i <;> simp [hj]
  have k2 : p / 2 ^ i &&& 1 = (p.testBit i).toNat := by
    rw [Nat.testBit_eq_decide_div_mod_eq, Nat.and_one_is_mod]
    have : p / 2 ^ i % 2 = 0 ∨ p / 2 ^ i % 2 = 1 := by omega
    rcases this with h | h <;> simp [h]
  rw [k1, k2]
  have hpos : 0 < 2 ^ i := Nat.two_pow_pos i
  cases p.testBit i
  · simp
  · simp only [Bool.toNat_true, Nat.mul_one]
    rw [Bool.eq_iff_iff]
    simp
    intro e
    have e' : (2 ^ i : Nat) = 0 := by exact_mod_cast e
    omega

theorem FnExactBlackAt : laws_FnExactBlackAt.Pure := by
  intro a0 a1 a2 h0 _ _
  have hb : 0 ≤ a0 ∧ a0 < 2 ^ 64 := by
    simp [Lit.wf, IntKind.min, IntKind.max, IntKind.signed, IntKind.bits] at h0
    omega
  obtain ⟨p, rfl⟩ := Int.eq_ofNat_of_zero_le hb.1
  have hp : p < 2 ^ 64 := by omega
  unfold laws_FnExactBlackAt.f spec_BlackAt.f impl_BlackAt.f spec_l01Cell.f impl_isCell.f spec_l01Bit.f spec_l00In.f impl_within.f impl_Picture_has.f
  by_cases h1 : a1 ≥ 0
  · by_cases h2 : a1 ≤ 7
    · by_cases h3 : a2 ≥ 0
      · by_cases h4 : a2 ≤ 7
        · have w1 : wrap64 (8 * a2) = 8 * a2 := by unfold wrap64; omega
          have w2 : wrap64 (a1 + 8 * a2) = a1 + 8 * a2 := by unfold wrap64; omega
          have w3 : IntKind.u64.wrap (a1 + 8 * a2) = a1 + 8 * a2 := by
            simp [IntKind.wrap, IntKind.bits, IntKind.signed]
            omega
          obtain ⟨i, hi⟩ := Int.eq_ofNat_of_zero_le (show 0 ≤ a1 + 8 * a2 by omega)
          have hi64 : i < 64 := by omega
          have key := and_shift p i hp hi64
          rw [w1, w2, w3, hi]
          have hn : (0 : Int) ≤ (i : Int) := Int.natCast_nonneg _
          simp only [h1, h2, h3, h4, if_true, decide_true, Option.bind_some, hn]
          rw [key]
          simp
        · simp [h1, h2, h3, h4]
      · simp [h1, h2, h3]
    · simp [h1, h2]
  · simp [h1]

end Go.Proofs.Ytkkkjmppbladeaa.Pure
