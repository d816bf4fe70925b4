/- Layers as cells: read, written, opened from their readings (used by the claims of this seat). -/
import Derived.Test.YtfmamihoaklogaaFa
namespace Go.Proofs.Ytfmamihoaklogaa.T
open Go.ChangeShapes Go.WideShapes Go.ChangeAt Go.RowKit Go.Joins Go.Deep
set_option linter.unusedVariables false

/-- The cells of a layer: how many parts, and the cells. -/
def lay (p : Int) (f : Nat → Nat) : Array Value := #[Value.int .i8 p] ++ fa .u8 64 f
section
variable {p q : Int} {f g : Nat → Nat}
theorem lay_size : (lay p f).size = 65 := by simp [lay, fa_size]
theorem lay_p : (lay p f)[0 + 0]? = some (.int .i8 p) := by
  unfold lay
  rw [Array.getElem?_append_left (by simp)]
  rfl
theorem lay_at {i : Nat} (hi : i < 64) : (lay p f)[1 + i]? = some (.int .u8 ((f i : Nat) : Int)) := by
  unfold lay
  rw [Array.getElem?_append_right (by simp), show 1 + i - (#[Value.int .i8 p]).size = i by simp, fa_at hi]
theorem off2 (i : Nat) : 0 + 1 + ((i : Nat) : Int).toNat * 1 = 1 + i := by simp
theorem lay_get {i : Nat} (hi : i < 64) : (lay p f)[0 + 1 + ((i : Nat) : Int).toNat * 1]? = some (.int .u8 ((f i : Nat) : Int)) := by rw [off2, lay_at hi]
theorem lay_cells : (lay p f).extract (0 + 1) (0 + 1 + 64) = fa .u8 64 f := by
  apply Array.ext
  · rw [Array.size_extract, lay_size, fa_size]
    rfl
  · intro i h1 h2
    have hi : i < 64 := by rwa [fa_size] at h2
    have a1 : ((lay p f).extract (0 + 1) (0 + 1 + 64))[i]? = some (.int .u8 ((f i : Nat) : Int)) := by
      rw [Array.getElem?_extract, if_pos (by rw [lay_size]; omega)]
      exact lay_at hi
    have a2 : (fa .u8 64 f)[i]? = some (.int .u8 ((f i : Nat) : Int)) := fa_at hi
    rw [Array.getElem?_eq_getElem h1, Option.some.injEq] at a1
    rw [Array.getElem?_eq_getElem h2, Option.some.injEq] at a2
    rw [a1, a2]
theorem lay_setp : (lay p f).setIfInBounds (0 + 0) (.int .i8 q) = lay q f := by
  apply Array.ext'
  unfold lay
  simp
theorem lay_setAt {i v : Nat} (hi : i < 64) : (lay p f).setIfInBounds (1 + i) (.int .u8 ((v : Nat) : Int)) = lay p (put1 f i v) := by
  have := fa_setAt (k := .u8) (f := f) (v := v) hi
  unfold lay
  rw [← this]
  apply Array.ext'
  rw [Array.toList_setIfInBounds, Array.toList_append, Array.toList_append, Array.toList_setIfInBounds]
  show (Value.int .i8 p :: (fa .u8 64 f).toList).set (1 + i) _ = Value.int .i8 p :: _
  rw [Nat.add_comm, List.set_cons_succ]
  rfl
theorem lay_set {i v : Nat} (hi : i < 64) : (lay p f).setIfInBounds (0 + 1 + ((i : Nat) : Int).toNat * 1) (.int .u8 ((v : Nat) : Int)) = lay p (put1 f i v) := by rw [off2, lay_setAt hi]
theorem lay_congr (h : ∀ i, i < 64 → f i = g i) : lay p f = lay p g := by unfold lay; rw [fa_congr h]
theorem lay_upto {i : Nat} (hi : i < 64) : (lay p (upto f i)).setIfInBounds (0 + 1 + ((i : Nat) : Int).toNat * 1) (.int .u8 ((f i : Nat) : Int)) = lay p (upto f (i + 1)) := by rw [lay_set hi, upto_put]
theorem lay_upto_all : lay p (upto f 64) = lay p f := by unfold lay; rw [upto_all]
theorem lay_upto_none : lay p (upto f 0) = lay p (fun _ => 0) := by unfold lay; rw [upto_none]
theorem lay_zero : #[Value.int .i8 p] ++ Array.replicate 64 (Value.int .u8 0) = lay p (fun _ => 0) := by unfold lay; rw [fa_zero]
theorem lay_blit : blit (lay p f) (0 + 1) (fa .u8 64 g) = lay p g := by
  apply Array.ext'
  unfold lay blit
  simp only [Array.toList_append, fa_size]
  have h1 : (fa .u8 64 f).toList.length = 64 := by rw [Array.length_toList, fa_size]
  have h2 : (fa .u8 64 g).toList.length = 64 := by rw [Array.length_toList, fa_size]
  show (Value.int .i8 p :: (fa .u8 64 f).toList).take 1 ++ _ ++ (Value.int .i8 p :: (fa .u8 64 f).toList).drop (64 + 1) = Value.int .i8 p :: _
  rw [List.drop_succ_cons, List.drop_of_length_le (by omega)]
  simp
theorem lay_one : ∀ v ∈ (lay p f).toList, v.oneCell' = true := by
  intro v hv
  unfold lay at hv
  rw [Array.toList_append, List.mem_append] at hv
  rcases hv with h | h
  · simp at h
    rw [h]
    rfl
  · exact fa_one v h
theorem lay_same : blit (lay p f) 0 (lay q g) = lay q g := blit_same (by rw [lay_size, lay_size])
end
attribute [irreducible] lay
/-- Is a layer valid? -/
def layOk (p : Int) (f : Nat → Nat) : Bool := (decide (1 ≤ p) && decide (p ≤ 8)) && (List.range 64).all fun i => decide (f i < 2 ^ p.toNat)
theorem layOk_true {p : Int} {f : Nat → Nat} (h : layOk p f = true) : ∃ n : Nat, p = (n : Int) ∧ 1 ≤ n ∧ n ≤ 8 ∧ ∀ i, i < 64 → f i < 2 ^ n := by
  unfold layOk at h
  simp only [Bool.and_eq_true, decide_eq_true_eq, List.all_eq_true, List.mem_range] at h
  obtain ⟨n, rfl⟩ := Int.eq_ofNat_of_zero_le (show 0 ≤ p by omega)
  exact ⟨n, rfl, by omega, by omega, h.2⟩
theorem layOk_of {n : Nat} {f : Nat → Nat} (h1 : 1 ≤ n) (h8 : n ≤ 8) (h : ∀ i, i < 64 → f i < 2 ^ n) : layOk (n : Int) f = true := by
  unfold layOk
  simp only [Bool.and_eq_true, decide_eq_true_eq, List.all_eq_true, List.mem_range]
  exact ⟨⟨by omega, by omega⟩, h⟩
theorem layOk_parts {p : Int} {f : Nat → Nat} (h : (decide (1 ≤ p) && decide (p ≤ 8)) = false) : layOk p f = false := by
  unfold layOk
  rw [h]
  rfl
theorem layOk_bad {n i : Nat} {f : Nat → Nat} (hi : i < 64) (h : ¬ f i < 2 ^ n) : layOk (n : Int) f = false := by
  cases hx : layOk (n : Int) f with
  | false => rfl
  | true =>
    obtain ⟨m, hm, _, _, hall⟩ := layOk_true hx
    have : n = m := by omega
    subst this
    exact absurd (hall i hi) h
attribute [irreducible] layOk
theorem andNot8_all : ((List.range 256).all fun x => (List.range 9).all fun k => (bits .andNot .u8 ((x : Nat) : Int) ((2 ^ k - 1 : Nat) : Int) == 0) == decide (x < 2 ^ k)) = true := by decide +kernel
theorem andNot8 {x k : Nat} (hx : x < 256) (hk : k ≤ 8) : (bits .andNot .u8 ((x : Nat) : Int) ((2 ^ k - 1 : Nat) : Int) == 0) = decide (x < 2 ^ k) := by
  have := List.all_eq_true.1 (List.all_eq_true.1 andNot8_all x (List.mem_range.2 hx)) k (List.mem_range.2 (by omega))
  exact eq_of_beq this
theorem shr8ok (x k : Nat) : (!(((x : Nat) : Int) / 2 ^ min ((k : Nat) : Int).toNat IntKind.u8.bits == 0)) = !decide (x < 2 ^ min k 8) := by
  have e : min ((k : Nat) : Int).toNat IntKind.u8.bits = min k 8 := rfl
  rw [e]
  generalize min k 8 = m
  have hpos : 1 ≤ 2 ^ m := Nat.one_le_two_pow
  congr 1
  have : ((x : Int) / 2 ^ m) = ((x / 2 ^ m : Nat) : Int) := by simp
  rw [this, Bool.eq_iff_iff, beq_iff_eq, decide_eq_true_eq]
  have := Nat.div_eq_zero_iff (a := x) (b := 2 ^ m)
  omega
section
variable {P : Program} {w0 : World} {t : Fr} {m : List Itm} {x y : Operand} {T : TypeId}
/-- A part of a block, read whole. -/
theorem Y.loadX {b T1 off n : Nat} {d : TypeDesc} {cs vs : Array Value} (hx : ev t x = .pointer (some ⟨b, off, none⟩)) (hu : P.underlying T = some d) (hd : plainD d = false) (hb : .blk b T1 cs ∈ m) (hi : (P.info? T).map (·.size) = some n) (hv : cs.extract off (off + n) = vs) (hn : off + n ≤ cs.size) :
    Yv P w0 t m (.load T x) (.agg vs) := hv ▸ Y.loadS hx hu hd hb hi hn
end
section
variable {H : Type} {enc : TypeId × Value → H} {P : Program} {w : World} {base : Nat} {spare : Nat → Bool} {held : Bool}
theorem fa8_trod {t e : TypeId} {n fuel : Nat} {cs : List Value} {x : DataW H × List MemPlace} (hs : P.underlying t = some (.array n e)) (he : P.underlying e = some (.int .u8)) (h1 : P.cellsOf e = 1) (hC : P.cellsOf t = n)
    (h : DataW.trod enc P w base spare held fuel t cs = some x) : ∃ f : Nat → Nat, cs = (fa .u8 n f).toList ∧ ∀ i, i < n → f i < 256 := by
  obtain ⟨xs, m, _, _, hl, hxl, hall⟩ := DataW.trod_array hs h
  rw [hC] at hl
  obtain ⟨f, hf, hb⟩ := fa_of (k := .u8) (c := 256) (n := n) (cs := cs.toArray) (by simpa using hl) (fun i hi => by
    have hx := hall i hi
    rw [h1, Nat.mul_one] at hx
    obtain ⟨y, hy⟩ : ∃ y, xs[i]? = some y := ⟨xs[i]'(by omega), List.getElem?_eq_getElem (by omega)⟩
    rw [hy] at hx
    obtain ⟨z, e0, _, w0⟩ := DataW.trod_int he hx
    have hb := wf_u8 w0
    obtain ⟨k, rfl⟩ := Int.eq_ofNat_of_zero_le hb.1
    refine ⟨k, by omega, ?_⟩
    have : ((cs.drop i).take 1)[0]? = some (.int .u8 (k : Int)) := by rw [e0]; rfl
    simpa using this)
  exact ⟨f, by rw [← hf], hb⟩
theorem opn_lay {r : Reach} {b0 : Nat} {t e : TypeId} {f0 f1 : Field} {v : Value} {d : DataW H} {ps : List MemPlace} (hs : P.underlying t = some (.struct #[f0, f1])) (hC : P.cellsOf t = 65)
    (h0 : P.underlying f0.type = some (.int .i8)) (h1 : P.underlying f1.type = some (.array 64 e)) (he : P.underlying e = some (.int .u8)) (hc0 : P.cellsOf f0.type = 1) (hc1 : P.cellsOf f1.type = 64) (hce : P.cellsOf e = 1) (ho0 : f0.offset = 0) (ho1 : f1.offset = 1)
    (hv : Value.okWide P w r b0 t v) (h : DataW.Trod enc P w base spare held t v d ps) : ∃ (p : Int) (f : Nat → Nat), v = .agg (lay p f) ∧ (-128 ≤ p ∧ p < 128) ∧ ∀ i, i < 64 → f i < 256 := by
  obtain ⟨cs, rfl, hsz⟩ := okWide_struct hs hv
  obtain ⟨fuel, hf⟩ := h
  obtain ⟨y0, y1, n, hx, _, k0, k1⟩ := trod_struct2 hs hf
  rw [hc0, ho0] at k0
  rw [hc1, ho1] at k1
  obtain ⟨p, e0, _, w0⟩ := DataW.trod_int h0 k0
  obtain ⟨f, e1, hb⟩ := fa8_trod h1 he hce hc1 k1
  refine ⟨p, f, ?_, wf_i8 w0, hb⟩
  congr 1
  apply Array.ext'
  have hl : cs.toList.length = 65 := by rw [Array.length_toList, hsz, hC]
  have e0' : cs.toList.take 1 = [Value.int .i8 p] := by simpa [Value.cells] using e0
  have e1' : (cs.toList.drop 1).take 64 = (fa .u8 64 f).toList := by simpa [Value.cells] using e1
  rw [List.take_of_length_le (by rw [List.length_drop]; omega)] at e1'
  unfold lay
  rw [Array.toList_append, ← e1', ← List.take_append_drop 1 cs.toList, e0']
  simp
end
end Go.Proofs.Ytfmamihoaklogaa.T
