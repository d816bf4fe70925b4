/- Arrays of numbers as functions: read, written, copied, opened from their readings (used by the claims of this seat). -/
import Derived.Test.YtfmamihoaklogaaAa
namespace Go.Proofs.Ytfmamihoaklogaa.T
open Go.ChangeShapes Go.WideShapes Go.ChangeAt Go.RowKit Go.Joins Go.Deep
set_option linter.unusedVariables false

/-- The cells of an array of n numbers of a kind. -/
def fa (k : IntKind) (n : Nat) (f : Nat → Nat) : Array Value := ((List.range n).map fun i => Value.int k ((f i : Nat) : Int)).toArray
section
variable {k : IntKind} {n : Nat} {f g : Nat → Nat}
theorem fa_size : (fa k n f).size = n := by simp [fa]
theorem fa_at {i : Nat} (hi : i < n) : (fa k n f)[i]? = some (.int k ((f i : Nat) : Int)) := by
  simp [fa, hi]
theorem off1 (i : Nat) : 0 + ((i : Nat) : Int).toNat * 1 = i := by simp
theorem fa_get {i : Nat} (hi : i < n) : (fa k n f)[0 + ((i : Nat) : Int).toNat * 1]? = some (.int k ((f i : Nat) : Int)) := by
  rw [off1, fa_at hi]
theorem fa_congr (h : ∀ i, i < n → f i = g i) : fa k n f = fa k n g := by
  unfold fa
  congr 1
  apply List.map_congr_left
  intro i hi
  rw [h i (List.mem_range.1 hi)]
theorem fa_zero (k : IntKind) (n : Nat) : Array.replicate n (Value.int k 0) = fa k n (fun _ => 0) := by
  apply Array.ext'
  rw [Array.toList_replicate]
  unfold fa
  apply List.ext_getElem
  · simp
  · intro i h1 h2
    simp
theorem fa_one : ∀ v ∈ (fa k n f).toList, v.oneCell' = true := by
  intro v hv
  simp only [fa] at hv
  obtain ⟨i, _, rfl⟩ := List.mem_map.1 hv
  rfl
theorem fa_all : (fa k n f).toList.all (·.oneCell') = true := List.all_eq_true.2 fa_one
def put1 (f : Nat → Nat) (i v : Nat) : Nat → Nat := fun j => if j = i then v else f j
theorem fa_setAt {i v : Nat} (hi : i < n) : (fa k n f).setIfInBounds i (.int k ((v : Nat) : Int)) = fa k n (put1 f i v) := by
  apply Array.ext
  · simp [fa_size]
  · intro j h1 h2
    have hj : j < n := by rwa [fa_size] at h2
    have e2 : (fa k n (put1 f i v))[j]? = some (.int k ((put1 f i v j : Nat) : Int)) := fa_at hj
    have e1 : ((fa k n f).setIfInBounds i (.int k ((v : Nat) : Int)))[j]? = some (.int k ((put1 f i v j : Nat) : Int)) := by
      by_cases e : j = i
      · subst e
        rw [Array.getElem?_setIfInBounds_self_of_lt (by rw [fa_size]; exact hj)]
        simp [put1]
      · rw [Array.getElem?_setIfInBounds_ne (Ne.symm e), fa_at hj]
        simp [put1, e]
    rw [Array.getElem?_eq_getElem h1] at e1
    rw [Array.getElem?_eq_getElem h2] at e2
    rw [Option.some.injEq] at e1 e2
    rw [e1, e2]
theorem fa_set {i v : Nat} (hi : i < n) : (fa k n f).setIfInBounds (0 + ((i : Nat) : Int).toNat * 1) (.int k ((v : Nat) : Int)) = fa k n (put1 f i v) := by
  rw [off1, fa_setAt hi]
/-- The first i are those of f, the others 0. -/
def upto (f : Nat → Nat) (i : Nat) : Nat → Nat := fun j => if j < i then f j else 0
theorem upto_put (f : Nat → Nat) (i : Nat) : put1 (upto f i) i (f i) = upto f (i + 1) := by
  funext j
  unfold put1 upto
  by_cases e : j = i
  · subst e
    simp
  · rw [if_neg e]
    by_cases h : j < i
    · rw [if_pos h, if_pos (by omega)]
    · rw [if_neg h, if_neg (by omega)]
theorem upto_at (f : Nat → Nat) (i : Nat) : upto f i i = 0 := by simp [upto]
theorem upto_all {f : Nat → Nat} : fa k n (upto f n) = fa k n f := fa_congr fun i hi => by simp [upto, hi]
theorem upto_none {f : Nat → Nat} : fa k n (upto f 0) = fa k n (fun _ => 0) := fa_congr fun i hi => by simp [upto]
theorem fa_upto {i : Nat} (hi : i < n) : (fa k n (upto f i)).setIfInBounds (0 + ((i : Nat) : Int).toNat * 1) (.int k ((f i : Nat) : Int)) = fa k n (upto f (i + 1)) := by
  rw [fa_set hi, upto_put]
theorem put1_self (f : Nat → Nat) (i v : Nat) : put1 f i v i = v := by simp [put1]
theorem put1_put (f : Nat → Nat) (i u v : Nat) : put1 (put1 f i u) i v = put1 f i v := by
  funext j
  unfold put1
  split <;> simp_all
theorem put1_same {f : Nat → Nat} {i v : Nat} (h : f i = v) : put1 f i v = f := by
  funext j
  unfold put1
  split
  · rename_i e
    rw [e, h]
  · rfl
theorem fa_get_put {i v : Nat} (hi : i < n) : (fa k n (put1 f i v))[0 + ((i : Nat) : Int).toNat * 1]? = some (.int k ((v : Nat) : Int)) := by
  rw [fa_get hi, put1_self]
theorem fa_set_put {i u v : Nat} (hi : i < n) : (fa k n (put1 f i u)).setIfInBounds (0 + ((i : Nat) : Int).toNat * 1) (.int k ((v : Nat) : Int)) = fa k n (put1 f i v) := by
  rw [fa_set hi, put1_put]
theorem blit_same {cs vs : Array Value} (h : cs.size = vs.size) : blit cs 0 vs = vs := by
  apply Array.ext'
  simp [blit]
  omega
theorem fa_blit {f g : Nat → Nat} {k' : IntKind} : blit (fa k n f) 0 (fa k' n g) = fa k' n g := blit_same (by rw [fa_size, fa_size])
end
section
variable {P : Program} {N : Nat} {w0 : World} {Q : Pst} {t : Fr} {m m' : List Itm} {ops : Array Oper} {l : List Oper} {x y : Operand} {T e : TypeId}
theorem Y.arrAll {b n : Nat} {s : Nat} (hx : ev t x = .pointer (some ⟨b, 0, none⟩)) (hu : P.underlying T = some (.array n e)) (hs : (P.info? e).map (·.size) = some s) : Yv P w0 t m (.slice T x none none none) (.slice (some ⟨b, 0, none⟩) n n) := Yv.mk fun ρ _ _ _ _ _ w he _ => by
  have h1 := he x (by simp [Op.operands])
  cases hq : P.info? e with
  | none => simp [hq] at hs
  | some i =>
    have hz : (sizeOf e).run P w = .ok i.size w := by simp [sizeOf, typeInfo, hq]
    simp [execOp, Instr.sliceAt, h1, hx, run_underlying hu, Sem.run_bind, Instr.sureAddr, Instr.sliceBounds, hz, Addr.add]
theorem Wl.storeF {o : Oper} {b T1 off : Nat} {cs cs' : Array Value} {k : IntKind} {a : Int} (hg : o.guard = none) (hd : o.dst = none) (ho : o.op = .store T x y) (hx : ev t x = .pointer (some ⟨b, off, none⟩)) (hy : ev t y = .int k a)
    (hs : (P.info? T).map (·.size) = some 1) (hcs : cs.setIfInBounds off (.int k a) = cs') (hr : Repl (.blk b T1 cs) (.blk b T1 cs') m m') (hn : off < cs.size)
    (k : Wl P N w0 ops Q l t m') : Wl P N w0 ops Q (o :: l) t m := Wl.store hg hd ho hx hy rfl hs hcs hr (Nat.ble_eq_true_of_le hn) k
/-- An element of an array value. -/
theorem Y.indexA {cs : Array Value} {i n : Nat} {k : IntKind} {v : Value} {d : TypeDesc} (hx : ev t x = .agg cs) (hy : ev t y = .int k ((i : Nat) : Int)) (hu : P.underlying T = some (.array n e)) (hs : (P.info? e).map (·.size) = some 1) (hd : P.underlying e = some d) (hp : plainD d = true) (hi : i < n) (hv : cs[i]? = some v) :
    Yv P w0 t m (.index T x y) v := Yv.mk fun ρ _ _ _ _ _ w he _ => by
  have h1 := he x (by simp [Op.operands]); have h2 := he y (by simp [Op.operands])
  have hagg : (isAgg e).run P w = .ok false w := by
    unfold isAgg
    rw [Sem.run_bind, run_underlying hd w]
    cases d <;> simp_all [plainD]
  cases hq : P.info? e with
  | none => simp [hq] at hs
  | some inf =>
    have hs' : inf.size = 1 := by simpa [hq] using hs
    have hz : (sizeOf e).run P w = .ok 1 w := by simp [sizeOf, typeInfo, hq, hs']
    simp [execOp, Instr.index, h1, h2, hx, hy, asIntOf, run_underlying hu, Sem.run_bind, hi, hz, part, hagg, hv]
end
section
variable {H : Type} {enc : TypeId × Value → H} {P : Program} {w : World} {base : Nat} {spare : Nat → Bool} {held : Bool}
theorem okWide_arr {r : Reach} {b0 : Nat} {t e : TypeId} {n : Nat} {v : Value} (ht : P.underlying t = some (.array n e)) (h : Value.okWide P w r b0 t v) : ∃ cs : Array Value, v = .agg cs := by
  unfold Value.okWide at h
  rw [ht] at h
  obtain ⟨cs, rfl, _⟩ := h
  exact ⟨cs, rfl⟩
theorem fa_of {k : IntKind} {n c : Nat} {cs : Array Value} (hl : cs.size = n) (h : ∀ i, i < n → ∃ x : Nat, x < c ∧ cs[i]? = some (.int k ((x : Nat) : Int))) : ∃ f : Nat → Nat, cs = fa k n f ∧ ∀ i, i < n → f i < c := by
  have hf : ∃ f : Nat → Nat, ∀ i, i < n → f i < c ∧ cs[i]? = some (.int k ((f i : Nat) : Int)) := by
    refine ⟨fun i => if h' : i < n then Classical.choose (h i h') else 0, fun i hi => ?_⟩
    simp only [hi, dif_pos]
    exact Classical.choose_spec (h i hi)
  obtain ⟨f, hf⟩ := hf
  refine ⟨f, ?_, fun i hi => (hf i hi).1⟩
  apply Array.ext
  · rw [fa_size, hl]
  · intro i h1 h2
    have hi : i < n := by rwa [hl] at h1
    have e1 := (hf i hi).2
    have e2 : (fa k n f)[i]? = _ := fa_at hi
    rw [Array.getElem?_eq_getElem h1, Option.some.injEq] at e1
    rw [Array.getElem?_eq_getElem h2, Option.some.injEq] at e2
    rw [e1, e2]
theorem opn_fa8 {r : Reach} {b0 : Nat} {t e : TypeId} {n : Nat} {v : Value} {d : DataW H} {p : List MemPlace} (hs : P.underlying t = some (.array n e)) (he : P.underlying e = some (.int .u8)) (h1 : P.cellsOf e = 1) (hC : P.cellsOf t = n)
    (hv0 : Value.okWide P w r b0 t v) (h : DataW.Trod enc P w base spare held t v d p) : ∃ f : Nat → Nat, v = .agg (fa .u8 n f) ∧ ∀ i, i < n → f i < 256 := by
  obtain ⟨cs, rfl⟩ := okWide_arr hs hv0
  obtain ⟨fuel, hf⟩ := h
  obtain ⟨xs, m, _, _, hl, hxl, hall⟩ := DataW.trod_array hs hf
  rw [hC] at hl
  obtain ⟨f, hf, hb⟩ := fa_of (k := .u8) (c := 256) (n := n) (cs := cs) (by simpa [Value.cells] using hl) (fun i hi => by
    have hx := hall i hi
    rw [h1, Nat.mul_one] at hx
    obtain ⟨y, hy⟩ : ∃ y, xs[i]? = some y := ⟨xs[i]'(by omega), List.getElem?_eq_getElem (by omega)⟩
    rw [hy] at hx
    obtain ⟨z, e0, _, w0⟩ := DataW.trod_int he hx
    have hb := wf_u8 w0
    obtain ⟨k, rfl⟩ := Int.eq_ofNat_of_zero_le hb.1
    refine ⟨k, by omega, ?_⟩
    have : ((((Value.agg cs).cells.toList.drop i).take 1)[0]?) = some (.int .u8 (k : Int)) := by rw [e0]; rfl
    simpa [Value.cells] using this)
  exact ⟨f, by rw [hf], hb⟩
theorem opn_fa64 {r : Reach} {b0 : Nat} {t e : TypeId} {n : Nat} {v : Value} {d : DataW H} {p : List MemPlace} (hs : P.underlying t = some (.array n e)) (he : P.underlying e = some (.int .u64)) (h1 : P.cellsOf e = 1) (hC : P.cellsOf t = n)
    (hv0 : Value.okWide P w r b0 t v) (h : DataW.Trod enc P w base spare held t v d p) : ∃ f : Nat → Nat, v = .agg (fa .u64 n f) ∧ ∀ i, i < n → f i < 2 ^ 64 := by
  obtain ⟨cs, rfl⟩ := okWide_arr hs hv0
  obtain ⟨fuel, hf⟩ := h
  obtain ⟨xs, m, _, _, hl, hxl, hall⟩ := DataW.trod_array hs hf
  rw [hC] at hl
  obtain ⟨f, hf, hb⟩ := fa_of (k := .u64) (c := 2 ^ 64) (n := n) (cs := cs) (by simpa [Value.cells] using hl) (fun i hi => by
    have hx := hall i hi
    rw [h1, Nat.mul_one] at hx
    obtain ⟨y, hy⟩ : ∃ y, xs[i]? = some y := ⟨xs[i]'(by omega), List.getElem?_eq_getElem (by omega)⟩
    rw [hy] at hx
    obtain ⟨z, e0, _, w0⟩ := DataW.trod_int he hx
    have hb := wf_u64 w0
    obtain ⟨k, rfl⟩ := Int.eq_ofNat_of_zero_le hb.1
    refine ⟨k, by omega, ?_⟩
    have : ((((Value.agg cs).cells.toList.drop i).take 1)[0]?) = some (.int .u64 (k : Int)) := by rw [e0]; rfl
    simpa [Value.cells] using this)
  exact ⟨f, by rw [hf], hb⟩
end
end Go.Proofs.Ytfmamihoaklogaa.T
