/- The logic's rules for memory (used by the claims of this seat). -/
import Derived.Test.YtfmamihoaklogaaTo
import Derived.Deep.MidRow
namespace Go.Proofs.Ytfmamihoaklogaa.T
open Go.RowKit
set_option linter.unusedVariables false
set_option linter.unusedSimpArgs false

section
variable {P : Program} {N : Nat} {w0 : World} {Q : Pst} {t : Fr} {m m' : List Itm} {ops : Array Oper} {l : List Oper} {x y z : Operand} {T T' : TypeId}

/-! ### Addresses -/
def szPos (P : Program) (T : TypeId) : Bool := match P.info? T with | some i => !Nat.beq i.size 0 | none => false
theorem Y.fld {b off i : Nat} {fs : Array Field} {f : Field} (hx : ev t x = .pointer (some ⟨b, off, none⟩)) (hu : P.underlying T = some (.struct fs)) (hf : fs.toList[i]? = some f) (hz : szPos P f.type = true) :
    Yv P w0 t m (.fieldAddr T x i) (.pointer (some ⟨b, off + f.offset, none⟩)) := Yv.mk fun ρ _ _ _ _ _ w he _ => by
  have h1 := he x (by simp [Op.operands])
  have hf' : fs[i]? = some f := by simpa using hf
  cases hi : P.info? f.type with
  | none => simp [szPos, hi] at hz
  | some inf =>
    have hs' : inf.size ≠ 0 := fun e => by simp [szPos, hi, e] at hz
    have hz : (sizeOf f.type).run P w = .ok inf.size w := by simp [sizeOf, typeInfo, hi]
    have ha : (⟨b, off, none⟩ : Addr).add f.offset = ⟨b, off + f.offset, none⟩ := by unfold Addr.add; split <;> simp_all
    simp [execOp, h1, hx, Instr.fieldAt, Instr.sureAddr, fieldPlace, Sem.run_bind, run_underlying hu, hf', hz, hs', ha]
theorem Y.ixA {b off n : Nat} {e : TypeId} {k : IntKind} {i : Int} (hx : ev t x = .pointer (some ⟨b, off, none⟩)) (hy : ev t y = .int k i) (hu : P.underlying T = some (.array n e)) {s : Nat} (hs : (P.info? e).map (·.size) = some s) (h0 : 0 ≤ i) (hn : i < n) :
    Yv P w0 t m (.indexAddr T x y) (.pointer (some ⟨b, off + i.toNat * s, none⟩)) := Yv.mk fun ρ _ _ _ _ _ w he _ => by
  have h1 := he x (by simp [Op.operands]); have h2 := he y (by simp [Op.operands])
  cases hi : P.info? e with
  | none => simp [hi] at hs
  | some inf =>
    have hs' : inf.size = s := by simpa [hi] using hs
    have hz : (sizeOf e).run P w = .ok s w := by simp [sizeOf, typeInfo, hi, hs']
    have ha : (⟨b, off, none⟩ : Addr).add (i.toNat * s) = ⟨b, off + i.toNat * s, none⟩ := by unfold Addr.add; split <;> simp_all
    simp [execOp, h1, h2, hx, hy, Instr.indexAt, asIntOf, Instr.sureAddr, Sem.run_bind, run_underlying hu, hz, ha, h0, hn]
theorem Y.ixS {b off n c : Nat} {e : TypeId} {k : IntKind} {i : Int} (hx : ev t x = .slice (some ⟨b, off, none⟩) n c) (hy : ev t y = .int k i) (hu : P.underlying T = some (.slice e)) {s : Nat} (hs : (P.info? e).map (·.size) = some s) (h0 : 0 ≤ i) (hn : i < n) :
    Yv P w0 t m (.indexAddr T x y) (.pointer (some ⟨b, off + i.toNat * s, none⟩)) := Yv.mk fun ρ _ _ _ _ _ w he _ => by
  have h1 := he x (by simp [Op.operands]); have h2 := he y (by simp [Op.operands])
  cases hi : P.info? e with
  | none => simp [hi] at hs
  | some inf =>
    have hs' : inf.size = s := by simpa [hi] using hs
    have hz : (sizeOf e).run P w = .ok s w := by simp [sizeOf, typeInfo, hi, hs']
    have ha : (⟨b, off, none⟩ : Addr).add (i.toNat * s) = ⟨b, off + i.toNat * s, none⟩ := by unfold Addr.add; split <;> simp_all
    simp [execOp, h1, h2, hx, hy, Instr.indexAt, asIntOf, Instr.sureAddr, Sem.run_bind, run_underlying hu, hz, ha, h0, hn]

/-! ### Loads -/
def plainD (d : TypeDesc) : Bool := match d with | .struct _ | .array _ _ => false | _ => true
theorem cell_of_mem {w : World} {b T off : Nat} {cs : Array Value} {v : Value} (hm : Mem w0 m w) (hb : .blk b T cs ∈ m) (hc : cs[off]? = some v) : w.cell? ⟨b, off, none⟩ = some v :=
  (cell_of_row w b off cs T (0, 0) (hm.ok _ hb).2).trans hc
theorem run_load_cell {w : World} {a : Addr} {d : TypeDesc} {v : Value} (hu : P.underlying T = some d) (hd : plainD d = true) (hc : w.cell? a = some v) : (loadVar T a).run P w = .ok v w := by
  have hagg : (isAgg T).run P w = .ok false w := by
    unfold isAgg
    rw [Sem.run_bind, run_underlying hu w]
    cases d <;> simp_all [plainD]
  simp [loadVar, Sem.run_bind, hagg, hc]
/-- A cell whose content is known of the world. -/
theorem Y.loadW {a : Addr} {d : TypeDesc} {v : Value} (hx : ev t x = .pointer (some a)) (hu : P.underlying T = some d) (hd : plainD d = true) (hc : ∀ w, Mem w0 m w → w.cell? a = some v) : Yv P w0 t m (.load T x) v := Yv.mk fun ρ _ _ _ _ _ w he hm => by
  have h1 := he x (by simp [Op.operands])
  simp [execOp, h1, hx, Instr.loadAt, Instr.sureAddr, Sem.run_bind, run_load_cell hu hd (hc w hm)]
theorem Y.load {b T1 off : Nat} {d : TypeDesc} {cs : Array Value} {v : Value} (hx : ev t x = .pointer (some ⟨b, off, none⟩)) (hu : P.underlying T = some d) (hd : plainD d = true) (hb : .blk b T1 cs ∈ m) (hc : cs[off]? = some v) : Yv P w0 t m (.load T x) v :=
  Y.loadW hx hu hd fun w hm => cell_of_mem hm hb hc
theorem Y.load_i {b T1 off : Nat} {d : TypeDesc} {cs : Array Value} {k : IntKind} {a : Int} (hx : ev t x = .pointer (some ⟨b, off, none⟩)) (hu : P.underlying T = some d) (hd : plainD d = true) (hb : .blk b T1 cs ∈ m) (hc : cs[off]? = some (.int k a)) : Yv P w0 t m (.load T x) (.int k a) := Y.load hx hu hd hb hc
theorem Y.load_b {b T1 off : Nat} {d : TypeDesc} {cs : Array Value} {a : Bool} (hx : ev t x = .pointer (some ⟨b, off, none⟩)) (hu : P.underlying T = some d) (hd : plainD d = true) (hb : .blk b T1 cs ∈ m) (hc : cs[off]? = some (.bool a)) : Yv P w0 t m (.load T x) (.bool a) := Y.load hx hu hd hb hc
theorem Y.loadG {b T1 : Nat} {d : TypeDesc} {cs : Array Value} (hx : ev t x = .pointer (some ⟨b, 0, none⟩)) (hu : P.underlying T = some d) (hd : plainD d = false) (hb : .blk b T1 cs ∈ m) (hi : (P.info? T).map (·.size) = some cs.size) : Yv P w0 t m (.load T x) (.agg cs) := Yv.mk fun ρ _ _ _ _ _ w he hm => by
  have h1 := he x (by simp [Op.operands])
  have hg := (hm.ok _ hb).2
  have := run_loadVar_row (P := P) w b T1 T cs (0, 0) d hg hu (by cases d <;> simp_all [plainD]) hi
  simp [execOp, h1, hx, Instr.loadAt, Instr.sureAddr, Sem.run_bind, this]
/-- A struct or an array that lies in a block, from the cell off on. -/
theorem Y.loadS {b T1 off n : Nat} {d : TypeDesc} {cs : Array Value} (hx : ev t x = .pointer (some ⟨b, off, none⟩)) (hu : P.underlying T = some d) (hd : plainD d = false) (hb : .blk b T1 cs ∈ m) (hi : (P.info? T).map (·.size) = some n) (hn : off + n ≤ cs.size) :
    Yv P w0 t m (.load T x) (.agg (cs.extract off (off + n))) := Yv.mk fun ρ _ _ _ _ _ w he hm => by
  have h1 := he x (by simp [Op.operands])
  have hg := (hm.ok _ hb).2
  have hagg : (isAgg T).run P w = .ok true w := by
    unfold isAgg
    rw [Sem.run_bind, run_underlying hu w]
    cases d <;> simp_all [plainD]
  have hl : (loadCells ⟨b, off, none⟩ (cs.extract off (off + n)).toList.length).run P w = .ok (cs.extract off (off + n)).toList.toArray w :=
    run_loadCells_list (P := P) w ⟨b, off, none⟩ (cs.extract off (off + n)).toList (fun j v hv => by
      have hadd : (⟨b, off, none⟩ : Addr).add j = ⟨b, off + j, none⟩ := by unfold Addr.add; split <;> simp_all
      rw [hadd, cell_of_row w b (off + j) cs T1 (0, 0) hg]
      rw [Array.getElem?_toList, Array.getElem?_extract] at hv
      split at hv
      · simpa using hv
      · cases hv)
  have hlen : (cs.extract off (off + n)).toList.length = n := by simp; omega
  rw [hlen, Array.toArray_toList] at hl
  cases hq : P.info? T with
  | none => simp [hq] at hi
  | some i =>
    have hs : i.size = n := by simpa [hq] using hi
    have hz : (sizeOf T).run P w = .ok n w := by simp [sizeOf, typeInfo, hq, hs]
    simp [execOp, h1, hx, Instr.loadAt, Instr.sureAddr, Sem.run_bind, loadVar, hagg, hz, hl]

/-! ### What was there ahead of the call -/
theorem old_blk {w : World} {b : Nat} {o : Obj} (hm : Mem w0 m w) (h : w0.heap[b]? = some o) : w.heap[b]? = some o := (hm.below.block b (Array.getElem?_eq_some_iff.1 h).1).trans h
theorem own_blk {w : World} {b T : Nat} {cs : Array Value} (hm : Mem w0 m w) (hb : .blk b T cs ∈ m) : w.heap[b]? = some (.cells cs T (0, 0)) := (hm.ok _ hb).2
theorem Y.load0 {b T1 off : Nat} {d : TypeDesc} {cs : Array Value} {v : Value} (hx : ev t x = .pointer (some ⟨b, off, none⟩)) (hu : P.underlying T = some d) (hd : plainD d = true) (hb : w0.heap[b]? = some (.cells cs T1 (0, 0))) (hc : cs[off]? = some v) : Yv P w0 t m (.load T x) v :=
  Y.loadW hx hu hd fun w hm => (cell_of_row w b off cs T1 (0, 0) (old_blk hm hb)).trans hc
theorem Y.loadG0 {b T1 : Nat} {d : TypeDesc} {cs : Array Value} (hx : ev t x = .pointer (some ⟨b, 0, none⟩)) (hu : P.underlying T = some d) (hd : plainD d = false) (hb : w0.heap[b]? = some (.cells cs T1 (0, 0))) (hi : (P.info? T).map (·.size) = some cs.size) : Yv P w0 t m (.load T x) (.agg cs) := Yv.mk fun ρ _ _ _ _ _ w he hm => by
  have h1 := he x (by simp [Op.operands])
  have hg := old_blk hm hb
  have := run_loadVar_row (P := P) w b T1 T cs (0, 0) d hg hu (by cases d <;> simp_all [plainD]) hi
  simp [execOp, h1, hx, Instr.loadAt, Instr.sureAddr, Sem.run_bind, this]

/-! ### New blocks -/
theorem Wl.box {o : Oper} {d : Nat} {v : Value} (hg : o.guard = none) (hd : o.dst = some d) (hN : Nat.ble (d + 1) N = true) (ho : o.op = .box T x) (hx : ev t x = v)
    (k : ∀ b, Wl P N w0 ops Q l (upd t d (.pointer (some ⟨b, 0, none⟩))) (.blk b T v.cells :: m)) : Wl P N w0 ops Q (o :: l) t m := fun a w hf hm =>
  wpList_plain hg fun K hK => by
    have h1 : a.eval x = v := (hf.eval x).trans hx
    have hrun : (execOp a.eval o).run P w = .ok (.value (.pointer (some ⟨w.heap.size, 0, none⟩))) (w.alloc (.cells v.cells T)) := by
      obtain ⟨dst, op, ty, pos, aft, g⟩ := o
      simp only at ho
      subst ho
      simp [execOp, h1, Instr.box, newVar, newRow, newObj, Sem.run_bind]
      rfl
    unfold Oper.wp
    rw [hrun]
    exact hK _ _ (by rw [hd]; exact k w.heap.size _ _ (hf.put (Nat.le_of_ble_eq_true hN) _) (hm.alloc T v.cells))
theorem Wl.boxA {o : Oper} {d : Nat} {cs : Array Value} (hg : o.guard = none) (hd : o.dst = some d) (hN : Nat.ble (d + 1) N = true) (ho : o.op = .box T x) (hx : ev t x = .agg cs)
    (k : ∀ b, Wl P N w0 ops Q l (upd t d (.pointer (some ⟨b, 0, none⟩))) (.blk b T cs :: m)) : Wl P N w0 ops Q (o :: l) t m := Wl.box hg hd hN ho hx k
theorem Wl.alloc {o : Oper} {d : Nat} {z : Value} (hg : o.guard = none) (hd : o.dst = some d) (hN : Nat.ble (d + 1) N = true) (ho : o.op = .alloc T) (hz : ∀ w, (zeroValue T).run P w = .ok z w)
    (k : ∀ b, Wl P N w0 ops Q l (upd t d (.pointer (some ⟨b, 0, none⟩))) (.blk b T z.cells :: m)) : Wl P N w0 ops Q (o :: l) t m := fun a w hf hm =>
  wpList_plain hg fun K hK => by
    have hrun : (execOp a.eval o).run P w = .ok (.value (.pointer (some ⟨w.heap.size, 0, none⟩))) (w.alloc (.cells z.cells T)) := by
      obtain ⟨dst, op, ty, pos, aft, g⟩ := o
      simp only at ho
      subst ho
      simp [execOp, Instr.alloc, hz, newVar, newRow, newObj, Sem.run_bind]
      rfl
    unfold Oper.wp
    rw [hrun]
    exact hK _ _ (by rw [hd]; exact k w.heap.size _ _ (hf.put (Nat.le_of_ble_eq_true hN) _) (hm.alloc T z.cells))

/-! ### Stores -/
theorem Mem.setRow {w : World} {b T1 : Nat} {cs cs' : Array Value} (hm : Mem w0 m w) (hr : Repl (.blk b T1 cs) (.blk b T1 cs') m m') : Mem w0 m' (w.setRow b cs') := by
  have ho := hm.ok _ hr.mem
  have hb : Below w0.heap.size w0 (w.setRow b cs') := hm.below.trans ⟨rfl, rfl, rfl, by simp, fun k hk => setRow_other w b k cs' (by have := ho.1; omega)⟩
  refine hr.keeps hm hb ⟨ho.1, setRow_heap w b cs cs' T1 (0, 0) ho.2⟩ (fun k hk => .inl hk) fun k _ hk => setRow_other w b k cs' (fun e => hk (by rw [e]; rfl))
theorem Wl.store {o : Oper} {b T1 off : Nat} {cs cs' : Array Value} {v : Value} (hg : o.guard = none) (hd : o.dst = none) (ho : o.op = .store T x y) (hx : ev t x = .pointer (some ⟨b, off, none⟩)) (hy : ev t y = v)
    (h1 : v.oneCell' = true) (hs : (P.info? T).map (·.size) = some 1) (hcs : cs.setIfInBounds off v = cs') (hr : Repl (.blk b T1 cs) (.blk b T1 cs') m m') (hn : Nat.blt off cs.size = true)
    (k : Wl P N w0 ops Q l t m') : Wl P N w0 ops Q (o :: l) t m := fun a w hf hm =>
  wpList_plain hg fun K hK => by
    subst hcs
    have hn := Nat.le_of_ble_eq_true hn
    have e1 : a.eval x = _ := (hf.eval x).trans hx
    have e2 : a.eval y = v := (hf.eval y).trans hy
    have hgb := (hm.ok _ hr.mem).2
    have hvc : v.cells = #[v] := by cases v <;> simp_all [Value.cells, Value.oneCell']
    cases hq : P.info? T with
    | none => simp [hq] at hs
    | some i =>
      have hs' : i.size = 1 := by simpa [hq] using hs
      have hz : (sizeOf T).run P w = .ok 1 w := by simp [sizeOf, typeInfo, hq, hs']
      have hadd : (⟨b, off, none⟩ : Addr).add 0 = ⟨b, off, none⟩ := by unfold Addr.add; split <;> simp_all
      have hst : (storeCells ⟨b, off, none⟩ [v]).run P w = .ok () (w.setRow b (cs.setIfInBounds off v)) := by
        have := run_storeCells_at (P := P) b off T1 [v] 0 cs w hgb (by simp; omega) (by simp [h1])
        rw [this]
        congr 2
        apply Array.ext'
        have hn' : off < cs.size := hn
        rw [Array.toList_setIfInBounds, List.set_eq_take_append_cons_drop]
        simp [hn']
      have hrun : (execOp a.eval o).run P w = .ok .skip (w.setRow b (cs.setIfInBounds off v)) := by
        obtain ⟨dst, op, ty, pos, aft, g⟩ := o
        simp only at ho
        subst ho
        simp [execOp, e1, e2, Instr.storeAt, Instr.sureAddr, storeVar, hvc, hz, hst, Sem.run_bind]
      unfold Oper.wp
      rw [hrun]
      exact hK _ _ (by rw [hd]; exact k _ _ hf (hm.setRow hr))
def blit (cs : Array Value) (off : Nat) (vs : Array Value) : Array Value := (cs.toList.take off ++ vs.toList ++ cs.toList.drop (off + vs.size)).toArray
/-- A struct or an array is stored from the cell off on. -/
theorem Wl.storeS {o : Oper} {b T1 off : Nat} {cs cs' vs : Array Value} (hg : o.guard = none) (hd : o.dst = none) (ho : o.op = .store T x y) (hx : ev t x = .pointer (some ⟨b, off, none⟩)) (hy : ev t y = .agg vs)
    (h1 : ∀ v ∈ vs.toList, v.oneCell' = true) (hs : (P.info? T).map (·.size) = some vs.size) (hcs : blit cs off vs = cs') (hr : Repl (.blk b T1 cs) (.blk b T1 cs') m m') (hn : Nat.ble (off + vs.size) cs.size = true)
    (k : Wl P N w0 ops Q l t m') : Wl P N w0 ops Q (o :: l) t m := fun a w hf hm =>
  wpList_plain hg fun K hK => by
    subst hcs
    have hn := Nat.le_of_ble_eq_true hn
    have e1 : a.eval x = _ := (hf.eval x).trans hx
    have e2 : a.eval y = .agg vs := (hf.eval y).trans hy
    have hgb := (hm.ok _ hr.mem).2
    cases hq : P.info? T with
    | none => simp [hq] at hs
    | some i =>
      have hs' : i.size = vs.size := by simpa [hq] using hs
      have hz : (sizeOf T).run P w = .ok vs.size w := by simp [sizeOf, typeInfo, hq, hs']
      have hst : (storeCells ⟨b, off, none⟩ vs.toList).run P w = .ok () (w.setRow b (blit cs off vs)) := by
        have := run_storeCells_at (P := P) b off T1 vs.toList 0 cs w hgb (by simp; omega) h1
        rw [this]
        simp [blit]
      have hrun : (execOp a.eval o).run P w = .ok .skip (w.setRow b (blit cs off vs)) := by
        obtain ⟨dst, op, ty, pos, aft, g⟩ := o
        simp only at ho
        subst ho
        simp [execOp, e1, e2, Instr.storeAt, Instr.sureAddr, storeVar, Value.cells, hz, hst, Sem.run_bind]
      unfold Oper.wp
      rw [hrun]
      exact hK _ _ (by rw [hd]; exact k _ _ hf (hm.setRow hr))
theorem Wl.store_i {o : Oper} {b T1 off : Nat} {cs cs' : Array Value} {k : IntKind} {a : Int} (hg : o.guard = none) (hd : o.dst = none) (ho : o.op = .store T x y) (hx : ev t x = .pointer (some ⟨b, off, none⟩)) (hy : ev t y = .int k a)
    (hs : (P.info? T).map (·.size) = some 1) (hcs : cs.setIfInBounds off (.int k a) = cs') (hr : Repl (.blk b T1 cs) (.blk b T1 cs') m m') (hn : Nat.blt off cs.size = true)
    (k : Wl P N w0 ops Q l t m') : Wl P N w0 ops Q (o :: l) t m := Wl.store hg hd ho hx hy rfl hs hcs hr hn k
theorem Wl.store_b {o : Oper} {b T1 off : Nat} {cs cs' : Array Value} {a : Bool} (hg : o.guard = none) (hd : o.dst = none) (ho : o.op = .store T x y) (hx : ev t x = .pointer (some ⟨b, off, none⟩)) (hy : ev t y = .bool a)
    (hs : (P.info? T).map (·.size) = some 1) (hcs : cs.setIfInBounds off (.bool a) = cs') (hr : Repl (.blk b T1 cs) (.blk b T1 cs') m m') (hn : Nat.blt off cs.size = true)
    (k : Wl P N w0 ops Q l t m') : Wl P N w0 ops Q (o :: l) t m := Wl.store hg hd ho hx hy rfl hs hcs hr hn k
theorem Wl.storeA {o : Oper} {b T1 off : Nat} {cs cs' vs : Array Value} (hg : o.guard = none) (hd : o.dst = none) (ho : o.op = .store T x y) (hx : ev t x = .pointer (some ⟨b, off, none⟩)) (hy : ev t y = .agg vs)
    (h1 : vs.toList.all (·.oneCell') = true) (hs : (P.info? T).map (·.size) = some vs.size) (hcs : blit cs off vs = cs') (hr : Repl (.blk b T1 cs) (.blk b T1 cs') m m') (hn : Nat.ble (off + vs.size) cs.size = true)
    (k : Wl P N w0 ops Q l t m') : Wl P N w0 ops Q (o :: l) t m := Wl.storeS hg hd ho hx hy (fun v hv => List.all_eq_true.1 h1 v hv) hs hcs hr hn k
end
end Go.Proofs.Ytfmamihoaklogaa.T
