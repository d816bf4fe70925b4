/- Arrays of bytes: as cells, read, written, opened from their readings (used by the claims of this seat). -/
import Derived.Test.YtkkkjmppbladeaaTh
import Derived.Test.YtkkkjmppbladeaaRk
namespace Go.Proofs.Ytkkkjmppbladeaa.T
open Go.ChangeShapes Go.WideShapes Go.ChangeAt Go.RowKit Go.Joins Go.Deep
set_option linter.unusedVariables false

/-- An array of bytes, as cells. -/
def u8a (L : List Nat) : Array Value := (L.map fun (k : Nat) => Value.int .u8 (k : Int)).toArray
theorem u8a_size (L : List Nat) : (u8a L).size = L.length := by simp [u8a]
theorem u8a_get (L : List Nat) {i : Nat} (hi : i < L.length) : (u8a L)[0 + ((i : Nat) : Int).toNat * 1]? = some (.int .u8 ((L[i] : Nat) : Int)) := by
  simp [u8a, hi]
theorem u8a_zero (n : Nat) : Array.replicate n (Value.int .u8 0) = u8a (List.replicate n 0) := by
  apply Array.ext'
  simp [u8a]
theorem u8a_one (L : List Nat) : ∀ v ∈ (u8a L).toList, v.oneCell' = true := by
  intro v hv
  simp only [u8a] at hv
  obtain ⟨k, _, rfl⟩ := List.mem_map.1 hv
  rfl
theorem blit_all {cs vs : Array Value} (h : cs.size = vs.size) : blit cs 0 vs = vs := by
  apply Array.ext'
  simp [blit]
  omega
def mx (L : List Nat) : Nat := L.foldl max 0
theorem foldl_max_le : ∀ (L : List Nat) (a c : Nat), L.foldl max a ≤ c ↔ a ≤ c ∧ ∀ k ∈ L, k ≤ c
  | [], a, c => by simp
  | y :: L, a, c => by
    simp only [List.foldl_cons, List.mem_cons, forall_eq_or_imp]
    rw [foldl_max_le L, Nat.max_le, and_assoc]
theorem mx_succ (L : List Nat) {i : Nat} (hi : i < L.length) : mx (L.take (i + 1)) = max (mx (L.take i)) L[i] := by
  unfold mx
  rw [List.take_succ_eq_append_getElem hi, List.foldl_append]
  rfl
theorem u8a_set (L : List Nat) (n : Nat) {i : Nat} (hn : L.length = n) (hi : i < n) :
    (u8a (L.take i ++ List.replicate (n - i) 0)).setIfInBounds (0 + ((i : Nat) : Int).toNat * 1) (.int .u8 ((L[i]'(by omega) : Nat) : Int)) = u8a (L.take (i + 1) ++ List.replicate (n - (i + 1)) 0) := by
  have e : 0 + ((i : Nat) : Int).toNat * 1 = i := by simp
  have h1 : List.replicate (n - i) 0 = 0 :: List.replicate (n - (i + 1)) 0 := by
    rw [show n - i = (n - (i + 1)) + 1 from by omega, List.replicate_succ]
  have h2 : L.take (i + 1) = L.take i ++ [L[i]'(by omega)] := List.take_succ_eq_append_getElem (by omega)
  rw [e, h1, h2]
  apply Array.ext'
  unfold u8a
  rw [Array.toList_setIfInBounds]
  simp only [List.map_append]
  rw [List.set_append_right _ _ (by simp; omega)]
  simp [Nat.min_eq_left (show i ≤ L.length by omega)]
section
variable {P : Program} {N : Nat} {w0 : World} {Q : Pst} {t : Fr} {m m' : List Itm} {ops : Array Oper} {l : List Oper} {x y : Operand} {T e : TypeId}
theorem Y.sliceAll {b n : Nat} {s : Nat} (hx : ev t x = .pointer (some ⟨b, 0, none⟩)) (hu : P.underlying T = some (.array n e)) (hs : (P.info? e).map (·.size) = some s) : Yv P w0 t m (.slice T x none none none) (.slice (some ⟨b, 0, none⟩) n n) := Yv.mk fun ρ _ _ _ _ _ w he _ => by
  have h1 := he x (by simp [Op.operands])
  cases hq : P.info? e with
  | none => simp [hq] at hs
  | some i =>
    have hz : (sizeOf e).run P w = .ok i.size w := by simp [sizeOf, typeInfo, hq]
    simp [execOp, Instr.sliceAt, h1, hx, run_underlying hu, Sem.run_bind, Instr.sureAddr, Instr.sliceBounds, hz, Addr.add]
theorem Wl.storeAt {o : Oper} {b T1 off : Nat} {cs cs' : Array Value} {k : IntKind} {a : Int} (hg : o.guard = none) (hd : o.dst = none) (ho : o.op = .store T x y) (hx : ev t x = .pointer (some ⟨b, off, none⟩)) (hy : ev t y = .int k a)
    (hs : (P.info? T).map (·.size) = some 1) (hcs : cs.setIfInBounds off (.int k a) = cs') (hr : Repl (.blk b T1 cs) (.blk b T1 cs') m m') (hn : off < cs.size)
    (k : Wl P N w0 ops Q l t m') : Wl P N w0 ops Q (o :: l) t m := Wl.store hg hd ho hx hy rfl hs hcs hr (Nat.ble_eq_true_of_le hn) k
end
section
variable {H : Type} {enc : TypeId × Value → H} {P : Program} {w : World} {base : Nat} {spare : Nat → Bool} {held : Bool}
theorem okWide_agg {r : Reach} {b0 : Nat} {t e : TypeId} {n : Nat} {v : Value} (ht : P.underlying t = some (.array n e)) (h : Value.okWide P w r b0 t v) : ∃ cs : Array Value, v = .agg cs := by
  unfold Value.okWide at h
  rw [ht] at h
  obtain ⟨cs, rfl, _⟩ := h
  exact ⟨cs, rfl⟩
theorem opn_arr8 {r : Reach} {b0 : Nat} {t e : TypeId} {n : Nat} {v : Value} {d : DataW H} {p : List MemPlace} (hs : P.underlying t = some (.array n e)) (he : P.underlying e = some (.int .u8)) (h1 : P.cellsOf e = 1) (hC : P.cellsOf t = n)
    (hv0 : Value.okWide P w r b0 t v) (h : DataW.Trod enc P w base spare held t v d p) : ∃ L : List Nat, v = .agg (u8a L) ∧ L.length = n ∧ ∀ k ∈ L, k < 256 := by
  obtain ⟨cs, rfl⟩ := okWide_agg hs hv0
  obtain ⟨fuel, hf⟩ := h
  obtain ⟨xs, m, _, _, hl, hxl, hall⟩ := DataW.trod_array hs hf
  rw [hC] at hl
  have key : ∀ i, i < n → ∃ k : Nat, k < 256 ∧ (Value.agg cs).cells.toList[i]? = some (.int .u8 (k : Int)) := by
    intro i hi
    have hx := hall i hi
    rw [h1, Nat.mul_one] at hx
    obtain ⟨y, hy⟩ : ∃ y, xs[i]? = some y := ⟨xs[i]'(by omega), List.getElem?_eq_getElem (by omega)⟩
    rw [hy] at hx
    obtain ⟨z, e0, _, w0⟩ := DataW.trod_int he hx
    have hb := wf_u8 w0
    obtain ⟨k, rfl⟩ := Int.eq_ofNat_of_zero_le hb.1
    refine ⟨k, by omega, ?_⟩
    have : ((((Value.agg cs).cells.toList.drop i).take 1)[0]?) = some (.int .u8 (k : Int)) := by rw [e0]; rfl
    simpa using this
  have hcs : (Value.agg cs).cells.toList = cs.toList := rfl
  rw [hcs] at hl key
  refine ⟨cs.toList.map fun v => (match v with | .int _ a => a.toNat | _ => 0), ?_, by simpa using hl, ?_⟩
  · congr 1
    apply Array.ext'
    simp only [u8a, List.map_map]
    apply List.ext_getElem?
    intro i
    rw [List.getElem?_map]
    by_cases hi : i < n
    · obtain ⟨k, hk, hv⟩ := key i hi
      rw [hv]
      simp
    · have : cs.toList[i]? = none := List.getElem?_eq_none (by omega)
      rw [this]
      rfl
  · intro k hk
    obtain ⟨v, hv, rfl⟩ := List.mem_map.1 hk
    obtain ⟨i, hi, rfl⟩ := List.getElem_of_mem hv
    obtain ⟨k, hk2, hv2⟩ := key i (by omega)
    rw [List.getElem?_eq_getElem hi, Option.some.injEq] at hv2
    rw [hv2]
    simpa using hk2
end
end Go.Proofs.Ytkkkjmppbladeaa.T
