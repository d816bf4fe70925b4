/- Lists of numbers: handed in, made, copied (used by the claims of this seat). -/
import Derived.Test.YtfmamihoaklogaaFa
import Derived.Test.YtfmamihoaklogaaTh
import Derived.Laws.MakeOwn
import Derived.ChangeSlices
namespace Go.Proofs.Ytfmamihoaklogaa.T
open Go.ChangeShapes Go.WideShapes Go.ChangeAt Go.RowKit Go.Joins Go.Deep
set_option linter.unusedVariables false

/-- A list of numbers of a kind, as cells. -/
def ks (k : IntKind) (L : List Nat) : List Value := L.map fun (n : Nat) => Value.int k (n : Int)
theorem ks_get (k : IntKind) (L : List Nat) {i : Nat} (hi : i < L.length) : (ks k L)[0 + ((i : Nat) : Int).toNat * 1]? = some (.int k ((L[i] : Nat) : Int)) := by
  simp [ks, hi]
theorem ks_len (k : IntKind) (L : List Nat) : (ks k L).length = L.length := by simp [ks]
abbrev kRow (e : TypeId) (v : Value) (k : IntKind) (L : List Nat) : Itm := .row v e 1 L.length (ks k L)
theorem ks_copy (k : IntKind) (L : List Nat) {i : Nat} (hi : i < L.length) :
    (ks k (L.take i ++ List.replicate (L.length - i) 0)).set (0 + ((i : Nat) : Int).toNat * 1) (.int k ((L[i] : Nat) : Int)) = ks k (L.take (i + 1) ++ List.replicate (L.length - (i + 1)) 0) := by
  have e : 0 + ((i : Nat) : Int).toNat * 1 = i := by simp
  have h1 : List.replicate (L.length - i) 0 = 0 :: List.replicate (L.length - (i + 1)) 0 := by
    rw [show L.length - i = (L.length - (i + 1)) + 1 from by omega, List.replicate_succ]
  have h2 : L.take (i + 1) = L.take i ++ [L[i]] := List.take_succ_eq_append_getElem hi
  rw [e, h1, h2]
  unfold ks
  rw [List.map_append, List.map_append, List.map_append, List.set_append_right _ _ (by simp; omega)]
  simp [Nat.min_eq_left (show i ≤ L.length by omega)]
/-- A list that was handed in reads as L. -/
def argAt (k : IntKind) (ao : Option Addr) (L : List Nat) (w : World) : Prop := ∀ i (h : i < L.length), ∃ a, ao = some a ∧ w.cell? (a.add i) = some (.int k ((L[i] : Nat) : Int))
theorem argAt_stays (k : IntKind) (ao : Option Addr) (L : List Nat) : Stays (argAt k ao L) := fun w w' h hb i hi => by
  obtain ⟨a, ha, hc⟩ := h i hi
  exact ⟨a, ha, (hb.cell (World.block_lt_of_cell? w _ hc)).trans hc⟩
section
variable {P : Program} {N : Nat} {w0 : World} {Q : Pst} {t : Fr} {m m' : List Itm} {ops : Array Oper} {l : List Oper} {x y : Operand} {T e : TypeId}
theorem Y.ixG {a : Addr} {n c i : Nat} {k : IntKind} (hx : ev t x = .slice (some a) n c) (hy : ev t y = .int k ((i : Nat) : Int)) (hu : P.underlying T = some (.slice e)) (hs : (P.info? e).map (·.size) = some 1) (hn : i < n) :
    Yv P w0 t m (.indexAddr T x y) (.pointer (some (a.add i))) := Yv.mk fun ρ _ _ _ _ _ w he _ => by
  have h1 := he x (by simp [Op.operands]); have h2 := he y (by simp [Op.operands])
  cases hi : P.info? e with
  | none => simp [hi] at hs
  | some inf =>
    have hs' : inf.size = 1 := by simpa [hi] using hs
    have hz : (sizeOf e).run P w = .ok 1 w := by simp [sizeOf, typeInfo, hi, hs']
    simp [execOp, h1, h2, hx, hy, Instr.indexAt, asIntOf, Instr.sureAddr, Sem.run_bind, run_underlying hu, hz, hn]
theorem Y.loadOld {a : Addr} {d : TypeDesc} {v : Value} (hx : ev t x = .pointer (some a)) (hu : P.underlying T = some d) (hd : plainD d = true) (hc : w0.cell? a = some v) : Yv P w0 t m (.load T x) v :=
  Y.loadW hx hu hd fun w hm => (hm.below.cell (World.block_lt_of_cell? w0 _ hc)).trans hc
theorem madeCells_one (z : Value) (n : Nat) : (madeCells #[z] n).toList = List.replicate n z := by
  unfold madeCells
  rw [Array.toList_map, Array.toList_range]
  apply List.ext_getElem
  · simp
  · intro i h1 h2
    simp [Nat.mod_one]
theorem Wl.makeS {o : Oper} {d n bytes : Nat} {z : Value} {k1 k2 : IntKind} (hg : o.guard = none) (hd : o.dst = some d) (hN : Nat.ble (d + 1) N = true) (ho : o.op = .makeSlice T x y)
    (hx : ev t x = .int k1 ((n : Nat) : Int)) (hy : ev t y = .int k2 ((n : Nat) : Int)) (hu : P.underlying T = some (.slice e)) (hi : (P.info? e).map (fun i => (i.zero, i.size, i.bytes)) = some (some z, 1, bytes)) (hzc : z.cells = #[z])
    (hb : bytes * n ≤ 281474976710656) (hm : n ≤ maxLen)
    (k : ∀ b, Wl P N w0 ops Q l (upd t d (.slice (some ⟨b, 0, none⟩) n n)) (.row (.slice (some ⟨b, 0, none⟩) n n) e 1 n (List.replicate n z) :: m)) : Wl P N w0 ops Q (o :: l) t m := fun a w hf hmm =>
  wpList_plain hg fun K hK => by
    obtain ⟨i, hi0, hi1, hi2, hi3⟩ := info_parts hi
    have e1 : a.eval x = _ := (hf.eval x).trans hx
    have e2 : a.eval y = _ := (hf.eval y).trans hy
    have h63 : ((n : Nat) : Int) ≤ 9223372036854775807 := by
      have h := hm
      simp [maxLen] at h
      omega
    have hbb : (i.bytes : Int) * ((n : Nat) : Int) ≤ 281474976710656 := by
      have h : ((i.bytes * n : Nat) : Int) ≤ 281474976710656 := by
        rw [hi3]
        omega
      rwa [Int.natCast_mul] at h
    have hr := run_make (P := P) w T e i z hu hi0 hi1 k1 k2 n n (Int.natCast_nonneg _) (Int.le_refl _) hbb h63
    simp only [Int.toNat_natCast, hi2, Nat.mul_one, hzc] at hr
    have hrun : (execOp a.eval o).run P w = .ok (.value (.slice (some ⟨w.heap.size, 0, none⟩) n n)) (w.alloc (.cells (madeCells #[z] n) e)) := by
      obtain ⟨dst, op, ty, pos, aft, g⟩ := o
      simp only at ho
      subst ho
      simp [execOp, e1, e2, hr]
    unfold Oper.wp
    rw [hrun]
    have hrow := (hmm.alloc e (madeCells #[z] n)).toRow (n := n) (cap := n) (sz := 1) (by rw [size_madeCells, Nat.mul_one]) (Nat.le_refl _) hm
    rw [Nat.mul_one, madeCells_one, List.take_of_length_le (by simp)] at hrow
    exact hK _ _ (by rw [hd]; exact k w.heap.size _ _ (hf.put (Nat.le_of_ble_eq_true hN) _) hrow)
end
section
variable {H : Type} {enc : TypeId × Value → H} {P : Program} {w : World} {base : Nat} {spare : Nat → Bool} {held : Bool}
theorem opn_sl {k : IntKind} {c : Nat} {r : Reach} {b0 : Nat} {t e : TypeId} {v : Value} {d : DataW H} {ps : List MemPlace} (hk : ∀ n : Int, (Lit.int k n).wf = true → 0 ≤ n ∧ n < (c : Int)) (ht : P.underlying t = some (.slice e)) (he : P.underlying e = some (.int k)) (hc : P.cellsOf e = 1)
    (hv : Value.okWide P w r b0 t v) (h : DataW.Trod enc P w base spare held t v d ps) : ∃ (ao : Option Addr) (cp : Nat) (L : List Nat), v = .slice ao L.length cp ∧ argAt k ao L w ∧ L.length ≤ maxLen ∧ ∀ x ∈ L, x < c := by
  obtain ⟨a0, l0, c0, rfl⟩ := okWide_slice ht hv
  obtain ⟨fuel, hf⟩ := h
  rcases open_ints ht he hc hf with ⟨h1, _⟩ | ⟨a, len, cap, zs, h1, _, hlc, hcm, hlen, _, hcell, hwf⟩
  · have h2 : Value.slice a0 l0 c0 = .slice none 0 0 := by simpa [Value.cells] using h1
    refine ⟨none, 0, [], h2, fun i hi => by simp at hi, by simp, fun x hx => by simp at hx⟩
  · have h2 : Value.slice a0 l0 c0 = .slice (some a) len cap := by simpa [Value.cells] using h1
    have hle : len ≤ zs.length := by rw [hlen]; split <;> omega
    have hll : ((zs.take len).map Int.toNat).length = len := by simp; omega
    refine ⟨some a, cap, (zs.take len).map Int.toNat, by rw [h2, hll], fun i hi => ⟨a, rfl, ?_⟩, by rw [hll]; omega, fun x hx => ?_⟩
    · have hi' : i < len := by rwa [hll] at hi
      rw [hcell i (by omega)]
      have hz : zs.getD i 0 = zs[i]'(by omega) := by
        rw [List.getD_eq_getElem?_getD, List.getElem?_eq_getElem (by omega)]
        rfl
      have h0 := (hk _ (hwf _ (List.getElem_mem (show i < zs.length by omega)))).1
      have e1 : ((zs.take len).map Int.toNat)[i] = (zs[i]'(by omega)).toNat := by simp
      rw [e1, hz, Int.toNat_of_nonneg h0]
    · obtain ⟨z, hz, rfl⟩ := List.mem_map.1 hx
      have := hk z (hwf z (List.mem_of_mem_take hz))
      omega
theorem opn_sl64 {r : Reach} {b0 : Nat} {t e : TypeId} {v : Value} {d : DataW H} {ps : List MemPlace} (ht : P.underlying t = some (.slice e)) (he : P.underlying e = some (.int .u64)) (hc : P.cellsOf e = 1)
    (hv : Value.okWide P w r b0 t v) (h : DataW.Trod enc P w base spare held t v d ps) : ∃ (ao : Option Addr) (cp : Nat) (L : List Nat), v = .slice ao L.length cp ∧ argAt .u64 ao L w ∧ L.length ≤ maxLen ∧ ∀ x ∈ L, x < 2 ^ 64 :=
  opn_sl (c := 2 ^ 64) (fun n hn => by have := wf_u64 hn; omega) ht he hc hv h
theorem opn_sl8 {r : Reach} {b0 : Nat} {t e : TypeId} {v : Value} {d : DataW H} {ps : List MemPlace} (ht : P.underlying t = some (.slice e)) (he : P.underlying e = some (.int .u8)) (hc : P.cellsOf e = 1)
    (hv : Value.okWide P w r b0 t v) (h : DataW.Trod enc P w base spare held t v d ps) : ∃ (ao : Option Addr) (cp : Nat) (L : List Nat), v = .slice ao L.length cp ∧ argAt .u8 ao L w ∧ L.length ≤ maxLen ∧ ∀ x ∈ L, x < 256 :=
  opn_sl (c := 256) (fun n hn => by have := wf_u8 hn; omega) ht he hc hv h
end
end Go.Proofs.Ytfmamihoaklogaa.T
