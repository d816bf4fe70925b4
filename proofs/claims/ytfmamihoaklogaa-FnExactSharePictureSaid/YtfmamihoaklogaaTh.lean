/- Lists in place: read, written (used by the claims of this seat). -/
import Derived.Test.YtfmamihoaklogaaTg
namespace Go.Proofs.Ytfmamihoaklogaa.T
open Go.RowKit
set_option linter.unusedVariables false
set_option linter.unusedSimpArgs false
section
variable {P : Program} {N : Nat} {w0 : World} {Q : Pst} {t : Fr} {m m' : List Itm} {ops : Array Oper} {l : List Oper} {x y : Operand} {T e : TypeId}

theorem row_form {w : World} {v : Value} {sz n : Nat} {xs : List Value} (hm : Mem w0 m w) (hb : .row v e sz n xs ∈ m) : (v = .slice none 0 0 ∧ n = 0) ∨ ∃ g cap, v = .slice (some ⟨g, 0, none⟩) n cap := by
  rcases (hm.ok _ hb).2 with h | ⟨g, cap, cur, hv, _⟩
  · exact .inl h
  · exact .inr ⟨g, cap, hv⟩
theorem row_len {w : World} {v : Value} {sz n : Nat} {xs : List Value} (hm : Mem w0 m w) (hb : .row v e sz n xs ∈ m) : xs.length = n * sz := (hm.ok _ hb).1
/-- Which form a list's value has. -/
theorem W.form {c : Code} {v : Value} {sz n : Nat} {xs : List Value} (hb : .row v e sz n xs ∈ m) (h0 : v = .slice none 0 0 → n = 0 → W P N w0 c Q t m) (h1 : ∀ g cap, v = .slice (some ⟨g, 0, none⟩) n cap → W P N w0 c Q t m) : W P N w0 c Q t m := fun a w hf hm => by
  rcases row_form hm hb with ⟨h, hn⟩ | ⟨g, cap, h⟩
  · exact h0 h hn a w hf hm
  · exact h1 g cap h a w hf hm
theorem W.form1 {c : Code} {v : Value} {sz n : Nat} {xs : List Value} (hb : .row v e sz n xs ∈ m) (h : ∀ ao cp, v = .slice ao n cp → (0 < n → ∃ g, ao = some ⟨g, 0, none⟩) → W P N w0 c Q t m) : W P N w0 c Q t m :=
  W.form hb (fun hv hn => h none 0 (by rw [hv, hn]) (fun h => by omega)) (fun g cap hv => h (some ⟨g, 0, none⟩) cap hv fun _ => ⟨g, rfl⟩)
theorem Wl.form {v : Value} {sz n : Nat} {xs : List Value} (hb : .row v e sz n xs ∈ m) (h0 : v = .slice none 0 0 → n = 0 → Wl P N w0 ops Q l t m) (h1 : ∀ g cap, v = .slice (some ⟨g, 0, none⟩) n cap → Wl P N w0 ops Q l t m) : Wl P N w0 ops Q l t m := fun a w hf hm => by
  rcases row_form hm hb with ⟨h, hn⟩ | ⟨g, cap, h⟩
  · exact h0 h hn a w hf hm
  · exact h1 g cap h a w hf hm
theorem Wl.form1 {v : Value} {sz n : Nat} {xs : List Value} (hb : .row v e sz n xs ∈ m) (h : ∀ ao cp, v = .slice ao n cp → (0 < n → ∃ g, ao = some ⟨g, 0, none⟩) → Wl P N w0 ops Q l t m) : Wl P N w0 ops Q l t m :=
  Wl.form hb (fun hv hn => h none 0 (by rw [hv, hn]) (fun h => by omega)) (fun g cap hv => h (some ⟨g, 0, none⟩) cap hv fun _ => ⟨g, rfl⟩)
theorem Wl.nilRow (e : TypeId) (sz : Nat) (h : Wl P N w0 ops Q l t (.row (.slice none 0 0) e sz 0 [] :: m)) : Wl P N w0 ops Q l t m := fun a w hf hm =>
  h a w hf (hm.cons (World.ownsRow_nil w w.heap.size e sz) (Below.refl _ _))
theorem W.nilRow {c : Code} (e : TypeId) (sz : Nat) (h : W P N w0 c Q t (.row (.slice none 0 0) e sz 0 [] :: m)) : W P N w0 c Q t m := fun a w hf hm =>
  h a w hf (hm.cons (World.ownsRow_nil w w.heap.size e sz) (Below.refl _ _))
theorem Y.loadRow {g n cap off sz : Nat} {d : TypeDesc} {xs : List Value} {u : Value} (hx : ev t x = .pointer (some ⟨g, off, none⟩)) (hu : P.underlying T = some d) (hd : plainD d = true) (hb : .row (.slice (some ⟨g, 0, none⟩) n cap) e sz n xs ∈ m) (hc : xs[off]? = some u) : Yv P w0 t m (.load T x) u :=
  Y.loadW hx hu hd fun w hm => by
    have := (hm.ok _ hb).cells (g := g) rfl off u hc
    rw [Addr.add_lit] at this
    simpa using this
/-- 'a[i] = x' on a list of one-cell elements. -/
theorem Wl.storeRow {o : Oper} {g n cap off sz : Nat} {xs : List Value} {u : Value} (hg : o.guard = none) (hd : o.dst = none) (ho : o.op = .store T x y) (hx : ev t x = .pointer (some ⟨g, off, none⟩)) (hy : ev t y = u)
    (h1 : u.oneCell' = true) (hs : (P.info? T).map (·.size) = some 1) (hr : Repl (.row (.slice (some ⟨g, 0, none⟩) n cap) e sz n xs) (.row (.slice (some ⟨g, 0, none⟩) n cap) e sz n (xs.set off u)) m m') (hn : off < n * sz)
    (k : Wl P N w0 ops Q l t m') : Wl P N w0 ops Q (o :: l) t m := fun a w hf hm => by
  have ho' := hm.ok _ hr.mem
  rcases ho'.2 with ⟨hv, _⟩ | ⟨g', cap', cur, hv, hb, hg', hnc, hcm, hcs, ht⟩
  · cases hv
  · simp only [Value.slice.injEq, Option.some.injEq, Addr.mk.injEq] at hv
    obtain ⟨⟨rfl, _, _⟩, _, rfl⟩ := hv
    have hlt : off < cur.size := by
      have := Nat.mul_le_mul_right sz hnc
      omega
    -- the list's item as a block of its own, one item among m's
    have main : ∀ w', w' = w.setRow g (cur.setIfInBounds off u) → Mem w0 m' w' := by
      rintro w' rfl
      refine hr.keeps hm ?_ ?_ (fun k hk => .inl hk) (fun k _ hk => setRow_other w g k _ (fun e' => hk (by rw [e']; rfl)))
      · exact hm.below.trans ⟨rfl, rfl, rfl, by simp, fun k hk => setRow_other w g k _ (by omega)⟩
      · refine ⟨by rw [List.length_set]; exact ho'.1, .inr ⟨g, cap, cur.setIfInBounds off u, rfl, hb, setRow_heap w g cur _ e (0, 0) hg', hnc, hcm, by simpa using hcs, ?_⟩⟩
        rw [Array.toList_setIfInBounds, List.take_set, ht]
    refine wpList_plain hg fun K hK => ?_
    have e1 : a.eval x = _ := (hf.eval x).trans hx
    have e2 : a.eval y = u := (hf.eval y).trans hy
    have hvc : u.cells = #[u] := by cases u <;> simp_all [Value.cells, Value.oneCell']
    cases hq : P.info? T with
    | none => simp [hq] at hs
    | some i =>
      have hs' : i.size = 1 := by simpa [hq] using hs
      have hz : (sizeOf T).run P w = .ok 1 w := by simp [sizeOf, typeInfo, hq, hs']
      have hst : (storeCells ⟨g, off, none⟩ [u]).run P w = .ok () (w.setRow g (cur.setIfInBounds off u)) := by
        have := run_storeCells_at (P := P) g off e [u] 0 cur w hg' (by simp; omega) (by simp [h1])
        rw [this]
        congr 2
        apply Array.ext'
        rw [Array.toList_setIfInBounds, List.set_eq_take_append_cons_drop]
        simp [hlt]
      have hrun : (execOp a.eval o).run P w = .ok .skip (w.setRow g (cur.setIfInBounds off u)) := by
        obtain ⟨dst, op, ty, pos, aft, gd⟩ := o
        simp only at ho
        subst ho
        simp [execOp, e1, e2, Instr.storeAt, Instr.sureAddr, storeVar, hvc, hz, hst, Sem.run_bind]
      unfold Oper.wp
      rw [hrun]
      exact hK _ _ (by rw [hd]; exact k _ _ hf (main _ rfl))
theorem Y.indexS {s : ByteArray} {i : Nat} {k : IntKind} {b : UInt8} (hx : ev t x = .string s) (hy : ev t y = .int k (i : Int)) (hu : P.underlying T = some .string) (hb : s[i]? = some b) : Yv P w0 t m (.index T x y) (.int .u8 (b.toNat : Int)) := Yv.mk fun ρ _ _ _ _ _ w he _ => by
  have h1 := he x (by simp [Op.operands]); have h2 := he y (by simp [Op.operands])
  simp [execOp, Instr.index, h1, h2, hx, hy, asIntOf, run_underlying hu, Sem.run_bind, hb]
end
end Go.Proofs.Ytfmamihoaklogaa.T
