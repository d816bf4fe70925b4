/- Texts as numbers; rows of eight signs (used by the claims of this seat). -/
import Derived.Test.YtagjdgglpphinaaBs
import Derived.Laws.Strings
namespace Go.Proofs.Ytagjdgglpphinaa.T
open Go.RowKit
set_option linter.unusedVariables false

/-- The i-th byte of a text, 0 behind its end. -/
def ch (s : ByteArray) (i : Nat) : Nat := ((s[i]?).getD 0).toNat
theorem ch_lt (s : ByteArray) (i : Nat) : ch s i < 256 := UInt8.toNat_lt _
section
variable {P : Program} {w0 : World} {t : Fr} {m : List Itm} {x y : Operand} {T T' e : TypeId}
theorem Y.indexCh {s : ByteArray} {i : Nat} {k : IntKind} (hx : ev t x = .string s) (hy : ev t y = .int k (i : Int)) (hu : P.underlying T = some .string) (hi : i < s.size) : Yv P w0 t m (.index T x y) (.int .u8 ((ch s i : Nat) : Int)) := by
  have hb : s[i]? = some s[i] := getElem?_pos s i hi
  have := Y.indexS (P := P) (w0 := w0) (m := m) hx hy hu hb
  have e : ((s[i]).toNat : Nat) = ch s i := by
    unfold ch
    rw [hb]
    rfl
  rwa [e] at this
end
theorem toList_data (s : ByteArray) : s.toList = s.data.toList := by
  exact ByteArray.toList_eq s
theorem strB_toList (L : List Nat) : (strB L).toList = L.map UInt8.ofNat := by
  rw [toList_data]
  unfold strB
  rw [strOfNums_data, List.map_map]
  rfl
theorem ch_data (s : ByteArray) {i : Nat} (hi : i < s.size) : s.data.toList[i]? = some (UInt8.ofNat (ch s i)) := by
  have hb : s[i]? = some s[i] := getElem?_pos s i hi
  unfold ch
  rw [hb]
  have : s.data.toList[i]? = some s[i] := by
    rw [Array.getElem?_toList]
    exact Array.getElem?_eq_getElem hi
  rw [this]
  simp
theorem strB_eq {L : List Nat} {s : ByteArray} (h : L.length = s.size) (hb : ∀ i, i < s.size → L.getD i 0 < 256) : ((strB L).toList == s.toList) = decide (∀ i, i < s.size → L.getD i 0 = ch s i) := by
  rw [Bool.eq_iff_iff, beq_iff_eq, decide_eq_true_eq, strB_toList, toList_data]
  constructor
  · intro he i hi
    have h1 := ch_data s hi
    rw [← he, List.getElem?_map] at h1
    have hL : L[i]? = some (L.getD i 0) := by
      rw [List.getD_eq_getElem?_getD, List.getElem?_eq_getElem (by omega)]
      rfl
    rw [hL, Option.map_some, Option.some.injEq] at h1
    have h2 := congrArg UInt8.toNat h1
    rw [UInt8.toNat_ofNat', UInt8.toNat_ofNat', Nat.mod_eq_of_lt (hb i hi), Nat.mod_eq_of_lt (ch_lt s i)] at h2
    exact h2
  · intro he
    apply List.ext_getElem?
    intro i
    by_cases hi : i < s.size
    · rw [ch_data s hi, List.getElem?_map]
      have hL : L[i]? = some (L.getD i 0) := by
        rw [List.getD_eq_getElem?_getD, List.getElem?_eq_getElem (by omega)]
        rfl
      rw [hL, Option.map_some, he i hi]
    · have h1 : s.data.toList[i]? = none := List.getElem?_eq_none (by rw [Array.length_toList]; exact Nat.le_of_not_lt hi)
      have h2 : (L.map UInt8.ofNat)[i]? = none := List.getElem?_eq_none (by simp; omega)
      rw [h1, h2]
/-- The signs of the first cells, with an end of line behind each eighth. -/
def rows8 (c : Nat → Nat) : Nat → List Nat
  | 0 => []
  | i + 1 => rows8 c i ++ [c i] ++ (if i % 8 = 7 then [10] else [])
theorem rows8_zero (c : Nat → Nat) : rows8 c 0 = [] := rfl
theorem rows8_end {c : Nat → Nat} {i : Nat} (h : i % 8 = 7) : rows8 c (i + 1) = rows8 c i ++ [c i] ++ [10] := by simp [rows8, h]
theorem rows8_in {c : Nat → Nat} {i : Nat} (h : ¬ i % 8 = 7) : rows8 c (i + 1) = rows8 c i ++ [c i] := by simp [rows8, h]
theorem rows8_len (c : Nat → Nat) : ∀ i, (rows8 c i).length = i + i / 8
  | 0 => rfl
  | i + 1 => by
    have ih := rows8_len c i
    by_cases h : i % 8 = 7
    · rw [rows8_end h]
      simp [ih]
      omega
    · rw [rows8_in h]
      simp [ih]
      omega
theorem rows8_get (c : Nat → Nat) : ∀ n i, i < n + n / 8 → (rows8 c n).getD i 0 = if i % 9 = 8 then 10 else c (i - i / 9)
  | 0, i, h => by omega
  | n + 1, i, h => by
    have ih := rows8_get c n
    have hl := rows8_len c n
    by_cases hlt : i < n + n / 8
    · have h1 : (rows8 c (n + 1)).getD i 0 = (rows8 c n).getD i 0 := by
        rw [List.getD_eq_getElem?_getD, List.getD_eq_getElem?_getD]
        by_cases h7 : n % 8 = 7
        · rw [rows8_end h7, List.append_assoc, List.getElem?_append_left (by omega)]
        · rw [rows8_in h7, List.getElem?_append_left (by omega)]
      rw [h1, ih i hlt]
    · by_cases h7 : n % 8 = 7
      · rw [rows8_end h7, List.getD_eq_getElem?_getD, List.append_assoc, List.getElem?_append_right (by omega)]
        have : i = n + n / 8 ∨ i = n + n / 8 + 1 := by omega
        rcases this with e | e
        · rw [show i - (rows8 c n).length = 0 by omega, if_neg (by omega), show i - i / 9 = n by omega]
          rfl
        · rw [show i - (rows8 c n).length = 1 by omega, if_pos (by omega)]
          rfl
      · rw [rows8_in h7, List.getD_eq_getElem?_getD, List.getElem?_append_right (by omega)]
        rw [show i - (rows8 c n).length = 0 by omega, if_neg (by omega), show i - i / 9 = n by omega]
        rfl
attribute [irreducible] rows8
/-- Where the k-th sign stands, and which sign stands at i. -/
theorem sign_at {i : Nat} (h : i % 9 ≠ 8) : (i - i / 9) + (i - i / 9) / 8 = i := by omega
theorem sign_no {k : Nat} : (k + k / 8) % 9 ≠ 8 ∧ (k + k / 8) - (k + k / 8) / 9 = k := by omega
def picAtOk (s : ByteArray) (i : Nat) : Prop := if i % 9 = 8 then ch s i = 10 else ch s i = 35 ∨ ch s i = 46
instance (s : ByteArray) (i : Nat) : Decidable (picAtOk s i) := by unfold picAtOk; infer_instance
def picOk (s : ByteArray) : Bool := (List.range 72).all fun i => decide (picAtOk s i)
theorem picOk_iff (s : ByteArray) : picOk s = true ↔ ∀ i, i < 72 → if i % 9 = 8 then ch s i = 10 else ch s i = 35 ∨ ch s i = 46 := by
  unfold picOk
  rw [List.all_eq_true]
  constructor
  · intro h i hi
    exact of_decide_eq_true (h i (List.mem_range.2 hi))
  · intro h i hi
    exact decide_eq_true (h i (List.mem_range.1 hi))
def picB (s : ByteArray) (k : Nat) : Bool := decide (ch s (k + k / 8) = 35)
def signN (b : Bool) : Nat := if b then 35 else 46
theorem picTxt_eq {s : ByteArray} (h : s.size = 72) : ((strB (rows8 (fun k => signN (picB s k)) 64)).toList == s.toList) = picOk s := by
  have hg := rows8_get (fun k => signN (picB s k)) 64
  have hb : ∀ i, i < 72 → (rows8 (fun k => signN (picB s k)) 64).getD i 0 = if i % 9 = 8 then 10 else (if ch s i = 35 then 35 else 46) := fun i hi => by
    rw [hg i (by omega)]
    split
    · rfl
    · rename_i h9
      simp only [signN, picB, sign_at h9, decide_eq_true_eq]
  rw [strB_eq (by rw [rows8_len, h]) (fun i hi => by rw [hb i (by omega)]; split <;> (try split) <;> omega)]
  rw [Bool.eq_iff_iff, decide_eq_true_eq, picOk_iff, h]
  constructor
  · intro hh i hi
    have := hh i hi
    rw [hb i hi] at this
    split at this
    · rename_i h9
      rw [if_pos h9]
      omega
    · rename_i h9
      rw [if_neg h9]
      split at this <;> omega
  · intro hh i hi
    rw [hb i hi]
    have := hh i hi
    split
    · rename_i h9
      rw [if_pos h9] at this
      omega
    · rename_i h9
      rw [if_neg h9] at this
      split <;> omega
def shdAtOk (s : ByteArray) (i : Nat) : Prop := if i % 9 = 8 then ch s i = 10 else 48 ≤ ch s i ∧ ch s i ≤ 52
instance (s : ByteArray) (i : Nat) : Decidable (shdAtOk s i) := by unfold shdAtOk; infer_instance
def shdOk (s : ByteArray) : Bool := (List.range 72).all fun i => decide (shdAtOk s i)
theorem shdOk_iff (s : ByteArray) : shdOk s = true ↔ ∀ i, i < 72 → if i % 9 = 8 then ch s i = 10 else 48 ≤ ch s i ∧ ch s i ≤ 52 := by
  unfold shdOk
  rw [List.all_eq_true]
  constructor
  · intro h i hi
    exact of_decide_eq_true (h i (List.mem_range.2 hi))
  · intro h i hi
    exact decide_eq_true (h i (List.mem_range.1 hi))
def shdF (s : ByteArray) (k : Nat) : Nat := (ch s (k + k / 8) + 208) % 256
theorem shdOk_f {s : ByteArray} (h : shdOk s = true) : ∀ k, k < 64 → shdF s k = ch s (k + k / 8) - 48 ∧ shdF s k ≤ 4 := fun k hk => by
  have := (shdOk_iff s).1 h (k + k / 8) (by omega)
  rw [if_neg sign_no.1] at this
  unfold shdF
  omega
theorem shdTxt_eq {s : ByteArray} (h : s.size = 72) (h4 : ∀ k, k < 64 → shdF s k ≤ 4) : ((strB (rows8 (fun k => 48 + shdF s k) 64)).toList == s.toList) = shdOk s := by
  have hg := rows8_get (fun k => 48 + shdF s k) 64
  have hb : ∀ i, i < 72 → (rows8 (fun k => 48 + shdF s k) 64).getD i 0 = if i % 9 = 8 then 10 else 48 + (ch s i + 208) % 256 := fun i hi => by
    rw [hg i (by omega)]
    split
    · rfl
    · rename_i h9
      simp only [shdF, sign_at h9]
  have h4' : ∀ i, i < 72 → i % 9 ≠ 8 → (ch s i + 208) % 256 ≤ 4 := fun i hi h9 => by
    have := h4 (i - i / 9) (by omega)
    unfold shdF at this
    rwa [sign_at h9] at this
  rw [strB_eq (by rw [rows8_len, h]) (fun i hi => by
    rw [hb i (by omega)]
    split
    · omega
    · rename_i h9
      have := h4' i (by omega) h9
      omega)]
  rw [Bool.eq_iff_iff, decide_eq_true_eq, shdOk_iff, h]
  constructor
  · intro hh i hi
    have := hh i hi
    rw [hb i hi] at this
    split at this
    · rename_i h9
      rw [if_pos h9]
      omega
    · rename_i h9
      rw [if_neg h9]
      have := h4' i hi h9
      omega
  · intro hh i hi
    rw [hb i hi]
    have := hh i hi
    split
    · rename_i h9
      rw [if_pos h9] at this
      omega
    · rename_i h9
      rw [if_neg h9] at this
      omega
end Go.Proofs.Ytagjdgglpphinaa.T
