/- How many bits of a number are one: by halves, and by the sums of bytes (used by the claims of this seat). -/
import Derived.Test.YtfmamihoaklogaaMa
namespace Go.Proofs.Ytfmamihoaklogaa.T
open Go.RowKit
set_option linter.unusedVariables false
set_option linter.unusedSimpArgs false

def pc : Nat → Nat → Nat
  | 0, _ => 0
  | n + 1, x => x % 2 + pc n (x / 2)
theorem pc_le : ∀ n x, pc n x ≤ n
  | 0, _ => Nat.le_refl _
  | n + 1, x => by
    have := pc_le n (x / 2)
    simp only [pc]
    omega
theorem pc_zero : ∀ n, pc n 0 = 0
  | 0 => rfl
  | n + 1 => by simp [pc, pc_zero n]
theorem pc_add : ∀ n k x, pc (n + k) x = pc n (x % 2 ^ n) + pc k (x / 2 ^ n)
  | 0, k, x => by simp [pc]
  | n + 1, k, x => by
    rw [show n + 1 + k = (n + k) + 1 from by omega]
    simp only [pc]
    rw [pc_add n k (x / 2), Nat.div_div_eq_div_mul, ← Nat.pow_succ']
    have h1 : x % 2 ^ (n + 1) % 2 = x % 2 := Nat.mod_mod_of_dvd x ⟨2 ^ n, by rw [Nat.pow_succ']⟩
    have h2 : x % 2 ^ (n + 1) / 2 = x / 2 % 2 ^ n := by
      rw [Nat.pow_succ', Nat.mod_mul_right_div_self]
    rw [h1, h2]
    simp only [Nat.succ_eq_add_one]
    omega
theorem pc8 (x : Nat) (k : Nat) : pc (8 + k) x = pc 8 (x % 256) + pc k (x / 256) := pc_add 8 k x

theorem and_byte (b m y M : Nat) (hb : b < 256) (hm : m < 256) : (b + 256 * y) &&& (m + 256 * M) = (b &&& m) + 256 * (y &&& M) := by
  have hbm : b &&& m < 256 := Nat.lt_of_le_of_lt Nat.and_le_left hb
  have e : ∀ (u v : Nat), u < 256 → ∀ i, (u + 256 * v).testBit i = if i < 8 then u.testBit i else v.testBit (i - 8) := by
    intro u v hu i
    rw [Nat.add_comm, show 256 = 2 ^ 8 from rfl, Nat.testBit_two_pow_mul_add v hu i]
  apply Nat.eq_of_testBit_eq
  intro i
  rw [Nat.testBit_and, e b y hb, e m M hm, e _ _ hbm]
  by_cases h : i < 8 <;> simp [h]
/-- The same byte, n times. -/
def rep (m : Nat) : Nat → Nat
  | 0 => 0
  | n + 1 => m + 256 * rep m n
/-- A function, on each of n bytes. -/
def bw (f : Nat → Nat) : Nat → Nat → Nat
  | 0, _ => 0
  | n + 1, x => f (x % 256) + 256 * bw f n (x / 256)
theorem bw_and {m : Nat} (hm : m < 256) : ∀ n x, x &&& rep m n = bw (fun b => b &&& m) n x
  | 0, x => by simp [rep, bw]
  | n + 1, x => by
    have h : x = x % 256 + 256 * (x / 256) := by omega
    have := and_byte (x % 256) m (x / 256) (rep m n) (by omega) hm
    rw [← h] at this
    rw [rep, this, bw_and hm n]
    rfl
theorem bw_shr {m s : Nat} (hs : s ≤ 8) (hm : m < 2 ^ (8 - s)) : ∀ n x, (x / 2 ^ s) &&& rep m n = bw (fun b => b / 2 ^ s &&& m) n x
  | 0, x => by simp [rep, bw]
  | n + 1, x => by
    have hp : 2 ^ s * 2 ^ (8 - s) = 256 := by rw [← Nat.pow_add, show s + (8 - s) = 8 from by omega]
    have hpos : 0 < 2 ^ s := Nat.two_pow_pos s
    have hm8 : m < 256 := Nat.lt_of_lt_of_le hm (by rw [← hp]; exact Nat.le_mul_of_pos_left _ hpos)
    have h : x / 2 ^ s = (x / 2 ^ s) % 256 + 256 * (x / 256 / 2 ^ s) := by
      have h0 : x / 256 / 2 ^ s = x / 2 ^ s / 256 := by rw [Nat.div_div_eq_div_mul, Nat.mul_comm, ← Nat.div_div_eq_div_mul]
      rw [h0]
      omega
    have h2 := and_byte ((x / 2 ^ s) % 256) m (x / 256 / 2 ^ s) (rep m n) (Nat.mod_lt _ (by decide)) hm8
    rw [← h] at h2
    rw [rep, h2, bw_shr hs hm n]
    simp only [bw]
    congr 1
    apply Nat.eq_of_testBit_eq
    intro i
    rw [Nat.testBit_and, Nat.testBit_and, show 256 = 2 ^ 8 from rfl, Nat.testBit_mod_two_pow, Nat.testBit_div_two_pow, Nat.testBit_div_two_pow, Nat.testBit_mod_two_pow]
    by_cases hi : i < 8 - s
    · simp [show i < 8 from by omega, show i + s < 8 from by omega]
    · have : m.testBit i = false := Nat.testBit_lt_two_pow (Nat.lt_of_lt_of_le hm (Nat.pow_le_pow_right (by decide) (by omega)))
      simp [this]
theorem bw_add (f g : Nat → Nat) : ∀ n x, bw f n x + bw g n x = bw (fun b => f b + g b) n x
  | 0, x => rfl
  | n + 1, x => by
    simp only [bw]
    rw [← bw_add f g n]
    omega
theorem bw_comp {f g : Nat → Nat} (hg : ∀ b, b < 256 → g b < 256) : ∀ n x, bw f n (bw g n x) = bw (fun b => f (g b)) n x
  | 0, x => rfl
  | n + 1, x => by
    have hb := hg (x % 256) (by omega)
    simp only [bw]
    rw [show (g (x % 256) + 256 * bw g n (x / 256)) % 256 = g (x % 256) from by omega, show (g (x % 256) + 256 * bw g n (x / 256)) / 256 = bw g n (x / 256) from by omega, bw_comp hg n]
theorem bw_congr {f g : Nat → Nat} (h : ∀ b, b < 256 → f b = g b) : ∀ n x, bw f n x = bw g n x
  | 0, x => rfl
  | n + 1, x => by
    simp only [bw]
    rw [h _ (by omega), bw_congr h n]
def g1 (b : Nat) : Nat := (b / 2 &&& 85) + (b &&& 85)
def g2 (b : Nat) : Nat := (b / 4 &&& 51) + (b &&& 51)
def g12 (b : Nat) : Nat := g2 (g1 b)
theorem g1_lt : ∀ b, b < 256 → g1 b < 256 := by decide +kernel
theorem g12_form : ∀ b, b < 256 → g12 b / 16 + g12 b % 16 = pc 8 b ∧ g12 b / 16 ≤ 4 ∧ g12 b % 16 ≤ 4 := by decide +kernel
theorem bw_lt {f : Nat → Nat} (hf : ∀ b, b < 256 → f b < 256) : ∀ n z, bw f n z < 256 ^ n
  | 0, z => by simp [bw]
  | n + 1, z => by
    have := bw_lt hf n (z / 256)
    have hb := hf (z % 256) (by omega)
    simp only [bw, Nat.pow_succ]
    omega
theorem g12_lt : ∀ b, b < 256 → g12 b < 256 := by decide +kernel
theorem low_of : ∀ n z, bw g12 n z % 16 ≤ 4
  | 0, z => by simp [bw]
  | n + 1, z => by
    have := (g12_form (z % 256) (by omega)).2.2
    simp only [bw]
    omega
theorem nib_one {c r p : Nat} (h1 : c / 16 + c % 16 = p) (h2 : c / 16 ≤ 4) (h3 : c % 16 ≤ 4) (h4 : r % 16 ≤ 4) :
    ((c + 256 * r) / 16 + (c + 256 * r)) % 256 % 16 = p ∧ ((c + 256 * r) / 16 + (c + 256 * r)) / 256 = r / 16 + r := by omega
theorem nibs : ∀ n x, bw (fun b => b % 16) n (bw g12 n x / 16 + bw g12 n x) = bw (pc 8) n x
  | 0, x => rfl
  | n + 1, x => by
    have f := g12_form (x % 256) (by omega)
    have k := nib_one f.1 f.2.1 f.2.2 (low_of n (x / 256))
    simp only [bw]
    rw [k.1, k.2, nibs n]
theorem nib_lt : ∀ n x, bw g12 n x / 16 + bw g12 n x < 256 ^ n
  | 0, x => by simp [bw]
  | n + 1, x => by
    have f := g12_form (x % 256) (by omega)
    have h1 := low_of n (x / 256)
    have ih := nib_lt n (x / 256)
    simp only [bw, Nat.pow_succ]
    generalize bw g12 n (x / 256) = r at *
    generalize g12 (x % 256) = c at *
    have : (c + 256 * r) / 16 + (c + 256 * r) = (c + c / 16 + 16 * (r % 16)) + 256 * (r / 16 + r) := by omega
    omega
theorem pc_bytes (x : Nat) (hx : x < 2 ^ 64) : pc 64 x = pc 8 (x % 256) + (pc 8 (x / 256 % 256) + (pc 8 (x / 256 / 256 % 256) + (pc 8 (x / 256 / 256 / 256 % 256) + (pc 8 (x / 256 / 256 / 256 / 256 % 256) + (pc 8 (x / 256 / 256 / 256 / 256 / 256 % 256) + (pc 8 (x / 256 / 256 / 256 / 256 / 256 / 256 % 256) + pc 8 (x / 256 / 256 / 256 / 256 / 256 / 256 / 256 % 256))))))) := by
  rw [pc8 x 56, pc8 (x / 256) 48, pc8 (x / 256 / 256) 40, pc8 (x / 256 / 256 / 256) 32, pc8 (x / 256 / 256 / 256 / 256) 24, pc8 (x / 256 / 256 / 256 / 256 / 256) 16, pc8 (x / 256 / 256 / 256 / 256 / 256 / 256) 8]
  have : x / 256 / 256 / 256 / 256 / 256 / 256 / 256 < 256 := by omega
  rw [Nat.mod_eq_of_lt this]
theorem sums {p0 p1 p2 p3 p4 p5 p6 p7 r1 r2 r3 r4 r5 r6 y3 : Nat} (h0 : p0 ≤ 8) (h1 : p1 ≤ 8) (h2 : p2 ≤ 8) (h3 : p3 ≤ 8) (h4 : p4 ≤ 8) (h5 : p5 ≤ 8) (h6 : p6 ≤ 8) (h7 : p7 ≤ 8)
    (e0 : y3 = p0 + 256 * r1) (e1 : r1 = p1 + 256 * r2) (e2 : r2 = p2 + 256 * r3) (e3 : r3 = p3 + 256 * r4) (e4 : r4 = p4 + 256 * r5) (e5 : r5 = p5 + 256 * r6) (e6 : r6 = p6 + 256 * p7) :
    y3 / 256 = r1 ∧ (y3 + r1) / 65536 = r2 + r3 ∧ (y3 + r1 + (r2 + r3)) / 4294967296 = r4 + r5 + r6 + p7 ∧ (y3 + r1 + (r2 + r3) + (r4 + r5 + r6 + p7)) % 128 = p0 + (p1 + (p2 + (p3 + (p4 + (p5 + (p6 + p7)))))) ∧ y3 + r1 + (r2 + r3) + (r4 + r5 + r6 + p7) < 2 ^ 63 := by
  refine ⟨by omega, ?_, ?_, ?_, ?_⟩
  · have : y3 + r1 = (p0 + p1 + 256 * (p1 + p2)) + 65536 * (r2 + r3) := by omega
    omega
  · have : y3 + r1 + (r2 + r3) = ((p0 + p1 + p2 + p3) + 256 * (p1 + p2 + p3 + p4) + 65536 * (p2 + p3 + p4 + p5) + 16777216 * (p3 + p4 + p5 + p6)) + 4294967296 * (r4 + r5 + r6 + p7) := by omega
    omega
  · have : y3 + r1 + (r2 + r3) + (r4 + r5 + r6 + p7) = (p0 + (p1 + (p2 + (p3 + (p4 + (p5 + (p6 + p7))))))) + 256 * (r1 + r2 + r3 + r4 + r5 + r6 + p7) := by omega
    omega
  · subst e6 e5 e4 e3 e2 e1 e0
    omega
theorem swar {x y1 y2 y3 y4 y5 y6 : Nat} (hx : x < 2 ^ 64) (h1 : y1 = (x / 2 &&& 6148914691236517205) + (x &&& 6148914691236517205)) (h2 : y2 = (y1 / 4 &&& 3689348814741910323) + (y1 &&& 3689348814741910323))
    (h3 : y3 = ((y2 / 16 + y2) &&& 1085102592571150095)) (h4 : y4 = y3 + y3 / 256) (h5 : y5 = y4 + y4 / 65536) (h6 : y6 = y5 + y5 / 4294967296) :
    y6 % 128 = pc 64 x ∧ y6 < 2 ^ 63 ∧ y1 < 2 ^ 64 ∧ y2 < 2 ^ 64 ∧ y2 / 16 + y2 < 2 ^ 64 := by
  have e1 : y1 = bw g1 8 x := by
    have a := bw_shr (m := 85) (s := 1) (by decide) (by decide) 8 x
    have b := bw_and (m := 85) (by decide) 8 x
    rw [show rep 85 8 = 6148914691236517205 from by decide] at a b
    rw [h1, show x / 2 = x / 2 ^ 1 from rfl, a, b, bw_add]
    rfl
  have e2 : y2 = bw g12 8 x := by
    have a := bw_shr (m := 51) (s := 2) (by decide) (by decide) 8 y1
    have b := bw_and (m := 51) (by decide) 8 y1
    rw [show rep 51 8 = 3689348814741910323 from by decide] at a b
    rw [h2, show y1 / 4 = y1 / 2 ^ 2 from rfl, a, b, bw_add, e1, bw_comp g1_lt]
    rfl
  have e3 := bw_and (m := 15) (by decide) 8 (y2 / 16 + y2)
  rw [show rep 15 8 = 1085102592571150095 from by decide, ← h3] at e3
  have e15 : bw (fun b => b &&& 15) 8 (y2 / 16 + y2) = bw (fun b => b % 16) 8 (y2 / 16 + y2) := bw_congr (fun b _ => Nat.and_two_pow_sub_one_eq_mod b 4) 8 _
  rw [e15, e2, nibs] at e3
  have l1 : y1 < 2 ^ 64 := by rw [e1]; exact bw_lt g1_lt 8 x
  have l2 : y2 < 2 ^ 64 := by rw [e2]; exact bw_lt g12_lt 8 x
  have l3 : y2 / 16 + y2 < 2 ^ 64 := by rw [e2]; exact nib_lt 8 x
  simp only [bw, Nat.mul_zero, Nat.add_zero] at e3
  have S := sums (pc_le 8 (x % 256)) (pc_le 8 (x / 256 % 256)) (pc_le 8 (x / 256 / 256 % 256)) (pc_le 8 (x / 256 / 256 / 256 % 256)) (pc_le 8 (x / 256 / 256 / 256 / 256 % 256)) (pc_le 8 (x / 256 / 256 / 256 / 256 / 256 % 256)) (pc_le 8 (x / 256 / 256 / 256 / 256 / 256 / 256 % 256)) (pc_le 8 (x / 256 / 256 / 256 / 256 / 256 / 256 / 256 % 256)) e3 rfl rfl rfl rfl rfl rfl
  rw [S.1] at h4
  rw [h4, S.2.1] at h5
  rw [h5, S.2.2.1] at h6
  refine ⟨?_, ?_, l1, l2, l3⟩
  · rw [pc_bytes x hx, h6]
    exact S.2.2.2.1
  · rw [h6]
    exact S.2.2.2.2
end Go.Proofs.Ytfmamihoaklogaa.T
