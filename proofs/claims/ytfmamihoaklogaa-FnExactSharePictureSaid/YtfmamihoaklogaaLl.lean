/- The cells of a list of layers (used by the claims of this seat). -/
import Derived.Test.YtfmamihoaklogaaLr
namespace Go.Proofs.Ytfmamihoaklogaa.T
open Go.RowKit
set_option linter.unusedVariables false
set_option linter.unusedSimpArgs false

def layc (P : Nat → Int) (F : Nat → Nat → Nat) (j : Nat) : Value := if j % 65 = 0 then .int .i8 (P (j / 65)) else .int .u8 ((F (j / 65) (j % 65 - 1) : Nat) : Int)
/-- The cells of a list of n layers. -/
def lays (P : Nat → Int) (F : Nat → Nat → Nat) (n : Nat) : List Value := (List.range (n * 65)).map (layc P F)
def putp (P : Nat → Int) (i : Nat) (q : Int) : Nat → Int := fun j => if j = i then q else P j
def put2 (F : Nat → Nat → Nat) (i k v : Nat) : Nat → Nat → Nat := fun a => if a = i then put1 (F i) k v else F a
section
variable {P P' : Nat → Int} {F F' : Nat → Nat → Nat} {n : Nat}
theorem lays_len : (lays P F n).length = n * 65 := by simp [lays]
theorem lays_at {j : Nat} (hj : j < n * 65) : (lays P F n)[j]? = some (layc P F j) := by simp [lays, hj]
theorem layc_p (i : Nat) : layc P F (i * 65) = .int .i8 (P i) := by
  unfold layc
  rw [if_pos (by omega), show i * 65 / 65 = i by omega]
theorem layc_c {i k : Nat} (hk : k < 64) : layc P F (i * 65 + (1 + k)) = .int .u8 ((F i k : Nat) : Int) := by
  unfold layc
  rw [if_neg (by omega), show (i * 65 + (1 + k)) / 65 = i by omega, show (i * 65 + (1 + k)) % 65 - 1 = k by omega]
theorem offp (i : Nat) : 0 + ((i : Nat) : Int).toNat * 65 + 0 = i * 65 := by simp
theorem offc (i k : Nat) : 0 + ((i : Nat) : Int).toNat * 65 + 1 + ((k : Nat) : Int).toNat * 1 = i * 65 + (1 + k) := by simp; omega
theorem lays_getp {i : Nat} (hi : i < n) : (lays P F n)[0 + ((i : Nat) : Int).toNat * 65 + 0]? = some (.int .i8 (P i)) := by rw [offp, lays_at (by omega), layc_p]
theorem lays_getc {i k : Nat} (hi : i < n) (hk : k < 64) : (lays P F n)[0 + ((i : Nat) : Int).toNat * 65 + 1 + ((k : Nat) : Int).toNat * 1]? = some (.int .u8 ((F i k : Nat) : Int)) := by rw [offc, lays_at (by omega), layc_c hk]
theorem lays_set {j : Nat} {v : Value} (h1 : v = layc P' F' j) (h2 : ∀ a, a < n * 65 → a ≠ j → layc P F a = layc P' F' a) : (lays P F n).set j v = lays P' F' n := by
  refine List.ext_getElem (by simp [lays_len]) fun a ha hb => ?_
  have ha' : a < n * 65 := by simpa [lays_len] using hb
  rw [List.getElem_set]
  by_cases e : j = a
  · subst e
    rw [if_pos rfl, h1]
    simp [lays]
  · rw [if_neg e]
    have := h2 a ha' (Ne.symm e)
    simpa [lays] using this
theorem lays_setp {i : Nat} {q : Int} : (lays P F n).set (0 + ((i : Nat) : Int).toNat * 65 + 0) (.int .i8 q) = lays (putp P i q) F n := by
  rw [offp]
  refine lays_set (by rw [layc_p]; simp [putp]) fun a ha hne => ?_
  unfold layc
  by_cases h : a % 65 = 0
  · rw [if_pos h, if_pos h]
    have : a / 65 ≠ i := by omega
    simp [putp, this]
  · rw [if_neg h, if_neg h]
theorem lays_setc {i k v : Nat} (hk : k < 64) : (lays P F n).set (0 + ((i : Nat) : Int).toNat * 65 + 1 + ((k : Nat) : Int).toNat * 1) (.int .u8 ((v : Nat) : Int)) = lays P (put2 F i k v) n := by
  rw [offc]
  refine lays_set (by rw [layc_c hk]; simp [put2, put1]) fun a ha hne => ?_
  unfold layc
  by_cases h : a % 65 = 0
  · rw [if_pos h, if_pos h]
  · rw [if_neg h, if_neg h]
    by_cases h2 : a / 65 = i
    · have h3 : a % 65 - 1 ≠ k := by omega
      simp [put2, put1, h2, h3]
    · simp [put2, h2]
theorem lays_lay {i : Nat} (hi : i < n) : ∀ j, j < 65 → (lays P F n)[0 + ((i : Nat) : Int).toNat * 65 + j]? = (lay (P i) (F i))[j]? := fun j hj => by
  rw [show 0 + ((i : Nat) : Int).toNat * 65 + j = i * 65 + j by simp, lays_at (by omega)]
  by_cases h : j = 0
  · subst h
    rw [Nat.add_zero, layc_p]
    exact lay_p.symm
  · have e : j = 1 + (j - 1) := by omega
    rw [e, layc_c (by omega), lay_at (by omega)]
theorem lays_congr (h1 : ∀ i, i < n → P i = P' i) (h2 : ∀ i, i < n → ∀ k, k < 64 → F i k = F' i k) : lays P F n = lays P' F' n := by
  refine List.map_congr_left fun j hj => ?_
  have := List.mem_range.1 hj
  unfold layc
  rw [h1 _ (by omega), h2 _ (by omega) (j % 65 - 1) (by omega)]
theorem lays_one : ∀ v ∈ lays P F n, v.oneCell' = true := by
  intro v hv
  obtain ⟨j, _, rfl⟩ := List.mem_map.1 hv
  unfold layc
  split <;> rfl
theorem lays_zero (n : Nat) : (madeCells (lay 0 (fun _ => 0)) (n * 65)).toList = lays (fun _ => 0) (fun _ _ => 0) n := by
  unfold madeCells lays
  rw [Array.toList_map, Array.toList_range]
  refine List.map_congr_left fun j hj => ?_
  rw [lay_size]
  have hj2 : j % 65 < 65 := Nat.mod_lt _ (by decide)
  have e : (lay 0 (fun _ => 0))[j % 65]? = some (layc (fun _ => 0) (fun _ _ => 0) j) := by
    unfold layc
    by_cases h : j % 65 = 0
    · rw [if_pos h, h]
      exact lay_p
    · rw [if_neg h]
      have h2 : j % 65 = 1 + (j % 65 - 1) := by omega
      rw [h2, lay_at (by omega)]
  rw [getElem!_def, e]
/-- The first c layers have parts. -/
def firstP (p : Int) (c : Nat) : Nat → Int := fun i => if i < c then p else 0
theorem lays_copy {p : Int} {c k N : Nat} (hk : k ≤ c) (hN : c + k ≤ N) : (lays (firstP p c) (fun _ _ => 0) N).take (c * 65) ++ (lays (firstP p c) (fun _ _ => 0) N).take (k * 65) ++ (lays (firstP p c) (fun _ _ => 0) N).drop (c * 65 + ((lays (firstP p c) (fun _ _ => 0) N).take (k * 65)).length) = lays (firstP p (c + k)) (fun _ _ => 0) N := by
  have hl : ((lays (firstP p c) (fun _ _ => 0) N).take (k * 65)).length = k * 65 := by rw [List.length_take, lays_len]; omega
  rw [hl]
  refine List.ext_getElem? fun j => ?_
  have hlc : ((lays (firstP p c) (fun _ _ => 0) N).take (c * 65)).length = c * 65 := by rw [List.length_take, lays_len]; omega
  by_cases h1 : j < c * 65
  · rw [List.append_assoc, List.getElem?_append_left (by omega), List.getElem?_take, if_pos h1, lays_at (by omega), lays_at (by omega)]
    unfold layc firstP
    rw [if_pos (show j / 65 < c by omega), if_pos (show j / 65 < c + k by omega)]
  · by_cases h2 : j < c * 65 + k * 65
    · rw [List.append_assoc, List.getElem?_append_right (by omega), hlc, List.getElem?_append_left (by omega), List.getElem?_take, if_pos (by omega), lays_at (by omega), lays_at (by omega)]
      unfold layc firstP
      rw [show (j - c * 65) % 65 = j % 65 by omega, if_pos (show (j - c * 65) / 65 < c by omega), if_pos (show j / 65 < c + k by omega)]
    · rw [List.getElem?_append_right (by rw [List.length_append]; omega), List.length_append, hlc, hl, List.getElem?_drop]
      rw [show c * 65 + k * 65 + (j - (c * 65 + k * 65)) = j by omega]
      by_cases h3 : j < N * 65
      · rw [lays_at h3, lays_at h3]
        unfold layc firstP
        rw [if_neg (show ¬ j / 65 < c by omega), if_neg (show ¬ j / 65 < c + k by omega)]
      · rw [List.getElem?_eq_none (by rw [lays_len]; omega), List.getElem?_eq_none (by rw [lays_len]; omega)]
theorem lays_first {p : Int} {N : Nat} (hN : 1 ≤ N) : (lays (fun _ => 0) (fun _ _ => 0) N).take 0 ++ (lay p (fun _ => 0)).toList ++ (lays (fun _ => 0) (fun _ _ => 0) N).drop (0 + (lay p (fun _ => 0)).toList.length) = lays (firstP p 1) (fun _ _ => 0) N := by
  have hl : (lay p (fun _ => 0)).toList.length = 65 := by rw [Array.length_toList, lay_size]
  rw [hl, List.take_zero, List.nil_append]
  refine List.ext_getElem? fun j => ?_
  by_cases h1 : j < 65
  · rw [List.getElem?_append_left (by omega), lays_at (by omega), Array.getElem?_toList]
    have := lays_lay (P := firstP p 1) (F := fun _ _ => 0) (n := N) (i := 0) (by omega) j h1
    rw [show 0 + ((0 : Nat) : Int).toNat * 65 + j = j by simp, lays_at (by omega)] at this
    rw [this]
    rfl
  · rw [List.getElem?_append_right (by omega), hl, List.getElem?_drop, show 0 + 65 + (j - 65) = j by omega]
    by_cases h3 : j < N * 65
    · rw [lays_at h3, lays_at h3]
      unfold layc firstP
      rw [if_neg (show ¬ j / 65 < 1 by omega)]
    · rw [List.getElem?_eq_none (by rw [lays_len]; omega), List.getElem?_eq_none (by rw [lays_len]; omega)]
end
attribute [irreducible] lays
end Go.Proofs.Ytfmamihoaklogaa.T
