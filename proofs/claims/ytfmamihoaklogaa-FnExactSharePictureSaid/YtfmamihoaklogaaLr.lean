/- Lists of layers: made, read, written, sliced, copied (used by the claims of this seat). -/
import Derived.Test.YtfmamihoaklogaaTh
import Derived.Test.YtfmamihoaklogaaLa
import Derived.Test.YtfmamihoaklogaaSl
import Derived.Laws.CopyRow
namespace Go.Proofs.Ytfmamihoaklogaa.T
open Go.RowKit
set_option linter.unusedVariables false
set_option linter.unusedSimpArgs false
section
variable {P : Program} {N : Nat} {w0 : World} {Q : Pst} {t : Fr} {m m' : List Itm} {ops : Array Oper} {l : List Oper} {x y : Operand} {T e : TypeId}
/-- A whole element of a list. -/
theorem Y.loadRowX {g n cap off sz k : Nat} {d : TypeDesc} {xs : List Value} {vs : Array Value} (hx : ev t x = .pointer (some ⟨g, off, none⟩)) (hu : P.underlying T = some d) (hd : plainD d = false) (hb : .row (.slice (some ⟨g, 0, none⟩) n cap) e sz n xs ∈ m) (hi : (P.info? T).map (·.size) = some k) (hk : vs.size = k)
    (hv : ∀ j, j < k → xs[off + j]? = vs[j]?) : Yv P w0 t m (.load T x) (.agg vs) := Yv.mk fun ρ _ _ _ _ _ w he hm => by
  have h1 := he x (by simp [Op.operands])
  have ho := hm.ok _ hb
  have hagg : (isAgg T).run P w = .ok true w := by
    unfold isAgg
    rw [Sem.run_bind, run_underlying hu w]
    cases d <;> simp_all [plainD]
  have hl : (loadCells ⟨g, off, none⟩ vs.toList.length).run P w = .ok vs.toList.toArray w :=
    run_loadCells_list (P := P) w ⟨g, off, none⟩ vs.toList (fun j v hj => by
      have hjk : j < k := by
        have := (List.getElem?_eq_some_iff.1 hj).1
        simp at this
        omega
      have h2 := hv j hjk
      rw [show vs[j]? = some v by simpa using hj] at h2
      have := ho.cells (g := g) rfl (off + j) v h2
      rw [Addr.add_lit] at this
      rw [Addr.add_lit]
      simpa using this)
  have hlen : vs.toList.length = k := by simpa using hk
  rw [hlen, Array.toArray_toList] at hl
  cases hq : P.info? T with
  | none => simp [hq] at hi
  | some i =>
    have hs : i.size = k := by simpa [hq] using hi
    have hz : (sizeOf T).run P w = .ok k w := by simp [sizeOf, typeInfo, hq, hs]
    simp [execOp, h1, hx, Instr.loadAt, Instr.sureAddr, Sem.run_bind, loadVar, hagg, hz, hl]
/-- A list of elements of several cells, made. -/
theorem Wl.makeX {o : Oper} {d n bytes sz : Nat} {z : Value} {k1 k2 : IntKind} (hg : o.guard = none) (hd : o.dst = some d) (hN : Nat.ble (d + 1) N = true) (ho : o.op = .makeSlice T x y)
    (hx : ev t x = .int k1 ((n : Nat) : Int)) (hy : ev t y = .int k2 ((n : Nat) : Int)) (hu : P.underlying T = some (.slice e)) (hi : (P.info? e).map (fun i => (i.zero, i.size, i.bytes)) = some (some z, sz, bytes))
    (hb : bytes * n ≤ 281474976710656) (hm : n ≤ maxLen)
    (k : ∀ b, Wl P N w0 ops Q l (upd t d (.slice (some ⟨b, 0, none⟩) n n)) (.row (.slice (some ⟨b, 0, none⟩) n n) e sz n (madeCells z.cells (n * sz)).toList :: m)) : Wl P N w0 ops Q (o :: l) t m := fun a w hf hmm =>
  wpList_plain hg fun K hK => by
    obtain ⟨i, hi0, hi1, hi2, hi3⟩ := info_parts hi
    have e1 : a.eval x = _ := (hf.eval x).trans hx
    have e2 : a.eval y = _ := (hf.eval y).trans hy
    have h63 : ((n : Nat) : Int) ≤ 9223372036854775807 := by
      have h := hm
      simp [maxLen] at h
      omega
    have hbb : (i.bytes : Int) * ((n : Nat) : Int) ≤ 281474976710656 := by
      have h : ((i.bytes * n : Nat) : Int) ≤ 281474976710656 := by
        rw [hi3]
        omega
      rwa [Int.natCast_mul] at h
    have hr := run_make (P := P) w T e i z hu hi0 hi1 k1 k2 n n (Int.natCast_nonneg _) (Int.le_refl _) hbb h63
    simp only [Int.toNat_natCast, hi2] at hr
    have hrun : (execOp a.eval o).run P w = .ok (.value (.slice (some ⟨w.heap.size, 0, none⟩) n n)) (w.alloc (.cells (madeCells z.cells (n * sz)) e)) := by
      obtain ⟨dst, op, ty, pos, aft, g⟩ := o
      simp only at ho
      subst ho
      simp [execOp, e1, e2, hr]
    unfold Oper.wp
    rw [hrun]
    have hrow := (hmm.alloc e (madeCells z.cells (n * sz))).toRow (n := n) (cap := n) (sz := sz) (by rw [size_madeCells]) (Nat.le_refl _) hm
    rw [List.take_of_length_le (by rw [Array.length_toList, size_madeCells]; exact Nat.le_refl _)] at hrow
    exact hK _ _ (by rw [hd]; exact k w.heap.size _ _ (hf.put (Nat.le_of_ble_eq_true hN) _) hrow)
theorem Y.sliceLow {g off n c k sz : Nat} {ki : IntKind} (hx : ev t x = .slice (some ⟨g, off, none⟩) n c) (hy : ev t y = .int ki (k : Int)) (hu : P.underlying T = some (.slice e)) (hs : (P.info? e).map (·.size) = some sz) (hk : k ≤ n) (hc : k < c) :
    Yv P w0 t m (.slice T x (some y) none none) (.slice (some ⟨g, off + k * sz, none⟩) (n - k) (c - k)) := Yv.mk fun ρ _ _ _ _ _ w he _ => by
  have h1 := he x (by simp [Op.operands])
  have h2 := he y (by simp [Op.operands])
  cases hq : P.info? e with
  | none => simp [hq] at hs
  | some i =>
    have hs' : i.size = sz := by simpa [hq] using hs
    have hz : (sizeOf e).run P w = .ok sz w := by simp [sizeOf, typeInfo, hq, hs']
    have hne : ¬ c = k := by omega
    have hle : (k : Int) ≤ (n : Int) := by omega
    simp [execOp, Instr.sliceAt, Instr.slice, h1, h2, hx, hy, run_underlying hu, Sem.run_bind, Instr.sliceBounds, Instr.sliceBound, asIntOf, hle, hz, hne, Addr.add_lit]
    intro h
    omega
theorem Y.sliceHigh {g off n c k sz : Nat} {ki : IntKind} (hx : ev t x = .slice (some ⟨g, off, none⟩) n c) (hy : ev t y = .int ki (k : Int)) (hu : P.underlying T = some (.slice e)) (hs : (P.info? e).map (·.size) = some sz) (hk : k ≤ c) :
    Yv P w0 t m (.slice T x none (some y) none) (.slice (some ⟨g, off, none⟩) k c) := Yv.mk fun ρ _ _ _ _ _ w he _ => by
  have h1 := he x (by simp [Op.operands])
  have h2 := he y (by simp [Op.operands])
  cases hq : P.info? e with
  | none => simp [hq] at hs
  | some i =>
    have hs' : i.size = sz := by simpa [hq] using hs
    have hz : (sizeOf e).run P w = .ok sz w := by simp [sizeOf, typeInfo, hq, hs']
    have hle : (k : Int) ≤ (c : Int) := by omega
    simp [execOp, Instr.sliceAt, Instr.slice, h1, h2, hx, hy, run_underlying hu, Sem.run_bind, Instr.sliceBounds, Instr.sliceBound, asIntOf, hle, hz, Addr.add_lit]
    intro h
    omega
theorem Y.sliceArr {g off n k sz : Nat} {ki : IntKind} (hx : ev t x = .pointer (some ⟨g, off, none⟩)) (hy : ev t y = .int ki (k : Int)) (hu : P.underlying T = some (.array n e)) (hs : (P.info? e).map (·.size) = some sz) (hk : k ≤ n) :
    Yv P w0 t m (.slice T x none (some y) none) (.slice (some ⟨g, off, none⟩) k n) := Yv.mk fun ρ _ _ _ _ _ w he _ => by
  have h1 := he x (by simp [Op.operands])
  have h2 := he y (by simp [Op.operands])
  cases hq : P.info? e with
  | none => simp [hq] at hs
  | some i =>
    have hs' : i.size = sz := by simpa [hq] using hs
    have hz : (sizeOf e).run P w = .ok sz w := by simp [sizeOf, typeInfo, hq, hs']
    have hle : (k : Int) ≤ (n : Int) := by omega
    simp [execOp, Instr.sliceAt, h1, h2, hx, hy, run_underlying hu, Sem.run_bind, Instr.sureAddr, Instr.sliceBounds, Instr.sliceBound, asIntOf, hle, hz, Addr.add_lit]
    intro h
    omega
theorem take_seg {A cs : List Value} {od n : Nat} (hn : n ≤ A.length) (hf : od + cs.length ≤ n) : (A.take od ++ cs ++ A.drop (od + cs.length)).take n = (A.take n).take od ++ cs ++ (A.take n).drop (od + cs.length) := by
  have hA : A = A.take n ++ A.drop n := (List.take_append_drop n A).symm
  have hl : (A.take n).length = n := by simp; omega
  generalize hB : A.take n = B at *
  generalize A.drop n = C at *
  subst hA
  rw [show (B ++ C).take od = B.take od from List.take_append_of_le_length (by omega), show (B ++ C).drop (od + cs.length) = B.drop (od + cs.length) ++ C from List.drop_append_of_le_length (by omega), ← List.append_assoc]
  refine List.take_left' ?_
  simp
  omega
/-- Elements copied into a list. -/
theorem Wl.copyRow {o : Oper} {d g od dLen dCap sLen sCap n cap sz k : Nat} {a : Addr} {T2 : TypeId} {xs cs : List Value} (hg : o.guard = none) (hd : o.dst = some d) (hN : Nat.ble (d + 1) N = true) (ho : o.op = .call { callee := .builtin .copy, args := #[x, y], argTypes := #[T, T2] })
    (hu : P.underlying T = some (.slice e)) (hs : (P.info? e).map (·.size) = some sz) (hx : ev t x = .slice (some ⟨g, od, none⟩) dLen dCap) (hy : ev t y = .slice (some a) sLen sCap) (hk : Nat.min sLen dLen = k) (hcs : cs.length = k * sz)
    (hsrc : ∀ w, Mem w0 m w → ∀ j v, cs[j]? = some v → w.cell? (a.add j) = some v) (h1 : ∀ v ∈ cs, v.oneCell' = true) (hfit : od + cs.length ≤ n * sz)
    (hr : Repl (.row (.slice (some ⟨g, 0, none⟩) n cap) e sz n xs) (.row (.slice (some ⟨g, 0, none⟩) n cap) e sz n (xs.take od ++ cs ++ xs.drop (od + cs.length))) m m')
    (kk : Wl P N w0 ops Q l (upd t d (.int .i64 (k : Int))) m') : Wl P N w0 ops Q (o :: l) t m := fun ac w hf hm => by
  have ho' := hm.ok _ hr.mem
  have hlx : xs.length = n * sz := ho'.1
  rcases ho'.2 with ⟨hv, _⟩ | ⟨g', cap', cur, hv, hb, hg', hnc, hcm, hcsz, ht⟩
  · cases hv
  · simp only [Value.slice.injEq, Option.some.injEq, Addr.mk.injEq] at hv
    obtain ⟨⟨rfl, _, _⟩, _, rfl⟩ := hv
    have hfc : n * sz ≤ cur.size := by
      rw [hcsz]
      exact Nat.mul_le_mul_right sz hnc
    have main : ∀ w', w' = w.setRow g (cur.toList.take od ++ cs ++ cur.toList.drop (od + cs.length)).toArray → Mem w0 m' w' := by
      rintro w' rfl
      refine hr.keeps hm ?_ ?_ (fun k hk => .inl hk) (fun k _ hk => setRow_other w g k _ (fun e' => hk (by rw [e']; rfl)))
      · exact hm.below.trans ⟨rfl, rfl, rfl, by simp, fun k hk => setRow_other w g k _ (by omega)⟩
      · refine ⟨by simp; omega, .inr ⟨g, cap, _, rfl, hb, setRow_heap w g cur _ e (0, 0) hg', hnc, hcm, by simp; omega, ?_⟩⟩
        have hcl : n * sz ≤ cur.toList.length := by simpa using hfc
        rw [List.toList_toArray, take_seg hcl hfit, ht]
    refine wpList_plain hg fun K hK => ?_
    have e1 : ac.eval x = _ := (hf.eval x).trans hx
    have e2 : ac.eval y = _ := (hf.eval y).trans hy
    have hl := run_loadCells_list (P := P) w a cs (hsrc w hm)
    have hst := run_storeCells_at P g od e cs 0 cur w hg' (by omega) h1
    cases hq : P.info? e with
    | none => simp [hq] at hs
    | some i =>
      have hi : i.size = sz := by simpa [hq] using hs
      have hrc : (Builtin.copy_ #[T, T2] o.type #[.slice (some ⟨g, od, none⟩) dLen dCap, .slice (some a) sLen sCap]).run P w = .ok (.int .i64 (k : Int)) (w.setRow g (cur.toList.take od ++ cs ++ cur.toList.drop (od + cs.length)).toArray) := by
        have hk' : min sLen dLen = k := hk
        simp [Builtin.copy_, run_underlying hu, Builtin.lenOf, Builtin.firstCells, sizeOf, typeInfo, hq, hi, hk', ← hcs, hl, hst, goInt]
      have hrun : (execOp ac.eval o).run P w = .ok (.value (.int .i64 (k : Int))) (w.setRow g (cur.toList.take od ++ cs ++ cur.toList.drop (od + cs.length)).toArray) := by
        obtain ⟨dst, op, ty, pos, aft, gd⟩ := o
        simp only at ho
        subst ho
        simp [execOp, resolve, invoke, builtin, e1, e2, hrc, Sem.run_bind]
      unfold Oper.wp
      rw [hrun]
      exact hK _ _ (by rw [hd]; exact kk _ _ (hf.put (Nat.le_of_ble_eq_true hN) _) (main _ rfl))
end
end Go.Proofs.Ytfmamihoaklogaa.T
