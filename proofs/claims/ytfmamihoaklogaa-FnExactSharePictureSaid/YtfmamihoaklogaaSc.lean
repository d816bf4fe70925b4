/- Schemes as cells: read, written (used by the claims of this seat). -/
import Derived.Test.YtfmamihoaklogaaFa
namespace Go.Proofs.Ytfmamihoaklogaa.T
open Go.RowKit
set_option linter.unusedVariables false

/-- The cells of a scheme: shares, parts, the rows of white and of black. -/
def sch (n p : Int) (f g : Nat → Nat) : Array Value := (#[Value.int .i8 n, Value.int .i8 p] ++ fa .u8 6 f) ++ fa .u8 6 g
section
variable {n p n' p' : Int} {f g f' g' : Nat → Nat}
theorem sch_size : (sch n p f g).size = 14 := by simp [sch, fa_size]
theorem sch_n : (sch n p f g)[0 + 0]? = some (.int .i8 n) := by
  unfold sch
  rw [Array.getElem?_append_left (by simp [fa_size]), Array.getElem?_append_left (by simp)]
  rfl
theorem sch_p : (sch n p f g)[0 + 1]? = some (.int .i8 p) := by
  unfold sch
  rw [Array.getElem?_append_left (by simp [fa_size]), Array.getElem?_append_left (by simp)]
  rfl
theorem sch_wAt {i : Nat} (hi : i < 6) : (sch n p f g)[2 + i]? = some (.int .u8 ((f i : Nat) : Int)) := by
  unfold sch
  rw [Array.getElem?_append_left (by simp [fa_size]; omega), Array.getElem?_append_right (by simp), show 2 + i - (#[Value.int .i8 n, Value.int .i8 p]).size = i by simp, fa_at hi]
theorem sch_bAt {i : Nat} (hi : i < 6) : (sch n p f g)[8 + i]? = some (.int .u8 ((g i : Nat) : Int)) := by
  unfold sch
  rw [Array.getElem?_append_right (by simp [fa_size]), show 8 + i - (#[Value.int .i8 n, Value.int .i8 p] ++ fa .u8 6 f).size = i by simp [fa_size], fa_at hi]
theorem offw (i : Nat) : 0 + 2 + ((i : Nat) : Int).toNat * 1 = 2 + i := by simp
theorem offb (i : Nat) : 0 + 8 + ((i : Nat) : Int).toNat * 1 = 8 + i := by simp
theorem sch_w {i : Nat} (hi : i < 6) : (sch n p f g)[0 + 2 + ((i : Nat) : Int).toNat * 1]? = some (.int .u8 ((f i : Nat) : Int)) := by rw [offw, sch_wAt hi]
theorem sch_b {i : Nat} (hi : i < 6) : (sch n p f g)[0 + 8 + ((i : Nat) : Int).toNat * 1]? = some (.int .u8 ((g i : Nat) : Int)) := by rw [offb, sch_bAt hi]
theorem sch_ext {A : Array Value} (hs : A.size = 14) (h0 : A[0]? = some (.int .i8 n)) (h1 : A[1]? = some (.int .i8 p)) (hw : ∀ i, i < 6 → A[2 + i]? = some (.int .u8 ((f i : Nat) : Int))) (hb : ∀ i, i < 6 → A[8 + i]? = some (.int .u8 ((g i : Nat) : Int))) : A = sch n p f g := by
  apply Array.ext
  · rw [hs, sch_size]
  · intro i h1' h2'
    have key : A[i]? = (sch n p f g)[i]? := by
      have hi : i < 14 := by omega
      by_cases c0 : i = 0
      · subst c0
        rw [h0, sch_n]
      · by_cases c1 : i = 1
        · subst c1
          rw [h1, sch_p]
        · by_cases c2 : i < 8
          · obtain ⟨k, rfl⟩ : ∃ k, i = 2 + k := ⟨i - 2, by omega⟩
            rw [hw k (by omega), sch_wAt (by omega)]
          · obtain ⟨k, rfl⟩ : ∃ k, i = 8 + k := ⟨i - 8, by omega⟩
            rw [hb k (by omega), sch_bAt (by omega)]
    rw [Array.getElem?_eq_getElem h1', Array.getElem?_eq_getElem h2'] at key
    exact Option.some.inj key
theorem sch_set {i : Nat} {v : Value} {j : Nat} : ((sch n p f g).setIfInBounds i v)[j]? = if i = j ∧ i < 14 then some v else (sch n p f g)[j]? := by
  rw [Array.getElem?_setIfInBounds]
  by_cases e : i = j
  · subst e
    rw [if_pos rfl, sch_size]
    by_cases h : i < 14
    · rw [if_pos h, if_pos ⟨rfl, h⟩]
    · rw [if_neg h, if_neg (by omega), Array.getElem?_eq_none (by rw [sch_size]; omega)]
  · rw [if_neg e, if_neg (by omega)]
theorem sch_setw {i v : Nat} (hi : i < 6) : (sch n p f g).setIfInBounds (0 + 2 + ((i : Nat) : Int).toNat * 1) (.int .u8 ((v : Nat) : Int)) = sch n p (put1 f i v) g := by
  rw [offw]
  refine sch_ext (by simp [sch_size]) ?_ ?_ ?_ ?_
  · rw [sch_set, if_neg (by omega), sch_n]
  · rw [sch_set, if_neg (by omega), sch_p]
  · intro j hj
    rw [sch_set]
    by_cases e : j = i
    · subst e
      rw [if_pos ⟨rfl, by omega⟩, put1_self]
    · rw [if_neg (by omega), sch_wAt hj]
      simp [put1, e]
  · intro j hj
    rw [sch_set, if_neg (by omega), sch_bAt hj]
theorem sch_setb {i v : Nat} (hi : i < 6) : (sch n p f g).setIfInBounds (0 + 8 + ((i : Nat) : Int).toNat * 1) (.int .u8 ((v : Nat) : Int)) = sch n p f (put1 g i v) := by
  rw [offb]
  refine sch_ext (by simp [sch_size]) ?_ ?_ ?_ ?_
  · rw [sch_set, if_neg (by omega), sch_n]
  · rw [sch_set, if_neg (by omega), sch_p]
  · intro j hj
    rw [sch_set, if_neg (by omega), sch_wAt hj]
  · intro j hj
    rw [sch_set]
    by_cases e : j = i
    · subst e
      rw [if_pos ⟨rfl, by omega⟩, put1_self]
    · rw [if_neg (by omega), sch_bAt hj]
      simp [put1, e]
theorem sch_setp : (sch n p f g).setIfInBounds (0 + 1) (.int .i8 p') = sch n p' f g := by
  refine sch_ext (by simp [sch_size]) ?_ ?_ ?_ ?_
  · rw [sch_set, if_neg (by omega), sch_n]
  · rw [sch_set, if_pos ⟨rfl, by omega⟩]
  · intro j hj
    rw [sch_set, if_neg (by omega), sch_wAt hj]
  · intro j hj
    rw [sch_set, if_neg (by omega), sch_bAt hj]
theorem fa_ext {A : Array Value} {k : IntKind} {m : Nat} {h : Nat → Nat} (hs : A.size = m) (ha : ∀ i, i < m → A[i]? = some (.int k ((h i : Nat) : Int))) : A = fa k m h := by
  apply Array.ext
  · rw [hs, fa_size]
  · intro i h1 h2
    have e1 := ha i (by omega)
    have e2 : (fa k m h)[i]? = some (.int k ((h i : Nat) : Int)) := fa_at (by omega)
    rw [Array.getElem?_eq_getElem h1, Option.some.injEq] at e1
    rw [Array.getElem?_eq_getElem h2, Option.some.injEq] at e2
    rw [e1, e2]
theorem sch_white : (sch n p f g).extract (0 + 2) (0 + 2 + 6) = fa .u8 6 f := by
  refine fa_ext (by rw [Array.size_extract, sch_size]; rfl) fun i hi => ?_
  rw [Array.getElem?_extract, if_pos (by rw [sch_size]; omega)]
  exact sch_wAt hi
theorem sch_black : (sch n p f g).extract (0 + 8) (0 + 8 + 6) = fa .u8 6 g := by
  refine fa_ext (by rw [Array.size_extract, sch_size]; rfl) fun i hi => ?_
  rw [Array.getElem?_extract, if_pos (by rw [sch_size]; omega)]
  exact sch_bAt hi
theorem sch_one : ∀ v ∈ (sch n p f g).toList, v.oneCell' = true := by
  intro v hv
  unfold sch at hv
  rw [Array.toList_append, Array.toList_append, List.mem_append, List.mem_append] at hv
  rcases hv with (h | h) | h
  · simp at h
    rcases h with rfl | rfl <;> rfl
  · exact fa_one v h
  · exact fa_one v h
theorem sch_same : blit (sch n p f g) 0 (sch n' p' f' g') = sch n' p' f' g' := blit_same (by rw [sch_size, sch_size])
theorem sch_zero : #[Value.int .i8 n, .int .i8 p, .int .u8 0, .int .u8 0, .int .u8 0, .int .u8 0, .int .u8 0, .int .u8 0, .int .u8 0, .int .u8 0, .int .u8 0, .int .u8 0, .int .u8 0, .int .u8 0] = sch n p (fun _ => 0) (fun _ => 0) := rfl
theorem sch_congr (h1 : ∀ i, i < 6 → f i = f' i) (h2 : ∀ i, i < 6 → g i = g' i) : sch n p f g = sch n p f' g' := by unfold sch; rw [fa_congr h1, fa_congr h2]
end
attribute [irreducible] sch
end Go.Proofs.Ytfmamihoaklogaa.T
