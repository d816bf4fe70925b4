/- Operations on numbers that are known to lie in their kind's bounds; bits of small kinds (used by the claims of this seat). -/
import Derived.Test.YtfmamihoaklogaaTh
import Derived.Test.YtfmamihoaklogaaRk
namespace Go.Proofs.Ytfmamihoaklogaa.T
open Go.RowKit
set_option linter.unusedVariables false
set_option linter.unusedSimpArgs false

section
variable {P : Program} {w0 : World} {t : Fr} {m : List Itm} {x y z : Operand} {T T' : TypeId}
theorem Y.rem_n {k : IntKind} {a b : Int} (hx : ev t x = .int k a) (hy : ev t y = .int k b) (ha : 0 ≤ a) (hb : 0 < b) : Yv P w0 t m (.binOp .rem T x y T') (.int k (a % b)) :=
  (Int.tmod_eq_emod_of_nonneg ha (b := b)) ▸ Y.rem hx hy (by omega)
theorem Y.quo_n {k : IntKind} {a b c : Int} (hx : ev t x = .int k a) (hy : ev t y = .int k b) (ha : 0 ≤ a) (hb : 0 < b) (e : k.wrap (a / b) = c) : Yv P w0 t m (.binOp .quo T x y T') (.int k c) := by
  have h := Y.quo (P := P) (w0 := w0) (m := m) (T := T) (T' := T') hx hy (by omega)
  rw [Int.tdiv_eq_ediv_of_nonneg ha, e] at h
  exact h
theorem Y.xor_e {k : IntKind} {a b c : Int} (hx : ev t x = .int k a) (hy : ev t y = .int k b) (e : bits .xor k a b = c) : Yv P w0 t m (.binOp .xor T x y T') (.int k c) := e ▸ Y.xor hx hy
theorem Y.andNot_e {k : IntKind} {a b c : Int} (hx : ev t x = .int k a) (hy : ev t y = .int k b) (e : bits .andNot k a b = c) : Yv P w0 t m (.binOp .andNot T x y T') (.int k c) := e ▸ Y.andNot hx hy
end
theorem bit8 {x i : Nat} (hx : x < 2 ^ 8) (hi : i < 8) : (bits .and .u8 (((x : Nat) : Int) / 2 ^ min ((i : Nat) : Int).toNat IntKind.u8.bits) 1 == 1) = x.testBit i := by
  have e : min ((i : Nat) : Int).toNat IntKind.u8.bits = i := by simp [IntKind.bits]; omega
  have e2 : ((x : Nat) : Int) / 2 ^ min ((i : Nat) : Int).toNat IntKind.u8.bits = ((x / 2 ^ i : Nat) : Int) := by rw [e]; simp
  rw [e2]
  have hd : x / 2 ^ i < 2 ^ 8 := Nat.lt_of_le_of_lt (Nat.div_le_self _ _) hx
  have c : bits .and .u8 ((x / 2 ^ i : Nat) : Int) 1 = ((x / 2 ^ i &&& 1 : Nat) : Int) := and8 (b := 1) hd (by decide)
  rw [c, Nat.and_one_is_mod, Nat.testBit_eq_decide_div_mod_eq]
  generalize x / 2 ^ i = y
  rw [Bool.eq_iff_iff, beq_iff_eq, decide_eq_true_eq]
  omega
theorem shl8 {i : Nat} (h : i < 8) : IntKind.u8.wrap (1 * 2 ^ min ((i : Nat) : Int).toNat IntKind.u8.bits) = ((2 ^ i : Nat) : Int) := by
  have e : min ((i : Nat) : Int).toNat IntKind.u8.bits = i := by simp [IntKind.bits]; omega
  have h2 : 2 ^ i < 2 ^ 8 := Nat.pow_lt_pow_right (by decide) h
  rw [e, Int.one_mul]
  have hc : ((2 : Int) ^ i) = ((2 ^ i : Nat) : Int) := by simp
  rw [hc]
  exact wrap_u8 (Int.natCast_nonneg _) (by omega)
theorem bit64n {x i : Nat} (hx : x < 2 ^ 64) : bits .and .u64 ((x / 2 ^ i : Nat) : Int) 1 = (((x.testBit i).toNat : Nat) : Int) := by
  have hd : x / 2 ^ i < 2 ^ 64 := Nat.lt_of_le_of_lt (Nat.div_le_self _ _) hx
  have c : bits .and .u64 ((x / 2 ^ i : Nat) : Int) 1 = ((x / 2 ^ i &&& 1 : Nat) : Int) := and64 (b := 1) hd (by decide)
  rw [c, Nat.and_one_is_mod, Nat.testBit_eq_decide_div_mod_eq]
  generalize x / 2 ^ i = y
  have : y % 2 = 0 ∨ y % 2 = 1 := by omega
  rcases this with h | h <;> rw [h] <;> rfl
theorem bit8n {x i : Nat} (hx : x < 2 ^ 8) : bits .and .u8 ((x / 2 ^ i : Nat) : Int) 1 = (((x.testBit i).toNat : Nat) : Int) := by
  have hd : x / 2 ^ i < 2 ^ 8 := Nat.lt_of_le_of_lt (Nat.div_le_self _ _) hx
  have c : bits .and .u8 ((x / 2 ^ i : Nat) : Int) 1 = ((x / 2 ^ i &&& 1 : Nat) : Int) := and8 (b := 1) hd (by decide)
  rw [c, Nat.and_one_is_mod, Nat.testBit_eq_decide_div_mod_eq]
  generalize x / 2 ^ i = y
  have : y % 2 = 0 ∨ y % 2 = 1 := by omega
  rcases this with h | h <;> rw [h] <;> rfl
theorem shr8n (x i : Nat) (h : i ≤ 8) : ((x : Nat) : Int) / 2 ^ min ((i : Nat) : Int).toNat IntKind.u8.bits = ((x / 2 ^ i : Nat) : Int) := by
  have e : min ((i : Nat) : Int).toNat IntKind.u8.bits = i := by simp [IntKind.bits]; omega
  rw [e]
  simp
theorem toNat_le (b : Bool) : b.toNat ≤ 1 := by cases b <;> simp
theorem shlB8 {b : Bool} {i : Nat} (h : i < 8) : IntKind.u8.wrap (((b.toNat : Nat) : Int) * 2 ^ min ((i : Nat) : Int).toNat IntKind.u8.bits) = ((b.toNat * 2 ^ i : Nat) : Int) := by
  cases b
  · have h0 : IntKind.u8.wrap 0 = 0 := wrap_u8 (by decide) (by decide)
    simpa using h0
  · have := shl8 h
    simpa using this
theorem shlB64 {b : Bool} {i : Nat} (h : i < 64) : IntKind.u64.wrap (((b.toNat : Nat) : Int) * 2 ^ min ((i : Nat) : Int).toNat IntKind.u64.bits) = ((b.toNat * 2 ^ i : Nat) : Int) := by
  cases b
  · have h0 : IntKind.u64.wrap 0 = 0 := wrap_u64 (by decide) (by decide)
    simpa using h0
  · have := shl64 h
    simpa using this
theorem ofB_orN (f : Nat → Bool) (i : Nat) : ofB f i ||| (f i).toNat * 2 ^ i = ofB f (i + 1) := by
  cases h : f i
  · rw [ofB_f h]; simp
  · rw [ofB_t h]; simp
theorem orB8 (f : Nat → Bool) {i : Nat} (h : i < 8) : bits .or .u8 ((ofB f i : Nat) : Int) (((f i).toNat * 2 ^ i : Nat) : Int) = ((ofB f (i + 1) : Nat) : Int) := by
  rw [or8 (ofB_le (by omega)) ?_, ofB_orN]
  have h2 : 2 ^ i < 2 ^ 8 := Nat.pow_lt_pow_right (by decide) h
  have := toNat_le (f i)
  cases f i <;> simp <;> omega
theorem orB64 (f : Nat → Bool) {i : Nat} (h : i < 64) : bits .or .u64 ((ofB f i : Nat) : Int) (((f i).toNat * 2 ^ i : Nat) : Int) = ((ofB f (i + 1) : Nat) : Int) := by
  rw [or64 (ofB_le (by omega)) ?_, ofB_orN]
  have h2 : 2 ^ i < 2 ^ 64 := Nat.pow_lt_pow_right (by decide) h
  have := toNat_le (f i)
  cases f i <;> simp <;> omega
/-- A bit is set in a number of bits up to i. -/
theorem ofB_or (f : Nat → Bool) (i : Nat) : (ofB f i ||| if f i = true then 2 ^ i else 0) = ofB f (i + 1) := rfl
end Go.Proofs.Ytfmamihoaklogaa.T
