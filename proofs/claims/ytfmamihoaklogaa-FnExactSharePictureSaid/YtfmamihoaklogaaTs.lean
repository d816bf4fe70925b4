/- Lists: made, added to, opened, handed back (used by the claims of this seat). -/
import Derived.Test.YtfmamihoaklogaaTe
import Derived.OwnWalk
import Derived.Laws.AppendOwn
namespace Go.Proofs.Ytfmamihoaklogaa.T
open Go.RowKit
set_option linter.unusedVariables false
set_option linter.unusedSimpArgs false

/-- A call of a function that hands something new back: its value and its memory are as R says. -/
structure FnR (P : Program) (f : FuncId) (args : Array Value) (pre : World → Prop) (R : Value → List Itm → Prop) : Prop where
  ent : Ent P f
  calls : ∀ w, pre w → Calls P f args w fun e w' => ∃ v m, e = .returned v ∧ Mem w m w' ∧ R v m
theorem fnR_of_W {P : Program} {f : FuncId} {fn : Func} {c : Code} {args : Array Value} {rs : List ResultVar} {R : Value → List Itm → Prop} {pre : World → Prop} {N : Nat} (hf : P.funcs[f]? = some fn) (hN : fn.ntmps = N) (hn : (fn.name == "runtime.NumGoroutine") = false) (hb : fn.body = some c) (hr : fn.results = rs.toArray) (ha : Nat.ble args.size N = true)
    (h : ∀ w, pre w → W P N w c (Rt P N rs R) (fr0 args.toList) []) : FnR P f args pre R :=
  ⟨.mk' hf hn hb, fun w hw => calls_of_W hf hN hb hr ha (h w hw)⟩
/-- One that writes nothing back. -/
theorem FnR.fn {P : Program} {f : FuncId} {args : Array Value} {pre : World → Prop} {R : Value → List Itm → Prop} {r : Value} (h : FnR P f args pre R) (hr : ∀ v m, R v m → v = r) : Fn P f args pre r :=
  ⟨h.ent, fun w hw => (h.calls w hw).mono fun e w' ⟨v, m, he, hm, hR⟩ => ⟨by rw [he, hr v m hR], hm.below⟩⟩
section
variable {P : Program} {N : Nat} {w0 : World} {Q : Pst} {t : Fr} {m : List Itm} {ops : Array Oper} {l : List Oper} {x y : Operand} {T e : TypeId}

theorem Mem.append {w w' : World} {m m' : List Itm} (h : Mem w0 m w) (h' : Mem w m' w') : Mem w0 (m' ++ m) w' := by
  have hs := h.step h'.below
  refine ⟨hs.below, fun z hz => ?_, ?_⟩
  · rcases List.mem_append.1 hz with hz | hz
    · exact Itm.lower (h'.ok z hz) h.base
    · exact hs.ok z hz
  · refine List.pairwise_append.2 ⟨h'.apart, hs.apart, fun a ha b hb k hk hk' => ?_⟩
    have h1 := (Itm.lt (h'.ok a ha) hk).1
    have h2 := (Itm.lt (h.ok b hb) hk').2
    omega
theorem Wl.callR {o : Oper} {d : Nat} {f : FuncId} {xs : Array Operand} {ts : Array TypeId} {args : Array Value} {pre : World → Prop} {R : Value → List Itm → Prop} (hg : o.guard = none) (hd : o.dst = some d) (hN : Nat.ble (d + 1) N = true) (ho : o.op = .call { callee := .value (.func f), args := xs, argTypes := ts })
    (h : FnR P f args pre R) (hx : xs.toList.map (ev t) = args.toList) (hp : ∀ w, Mem w0 m w → pre w)
    (k : ∀ v m', R v m' → Wl P N w0 ops Q l (upd t d v) (m' ++ m)) : Wl P N w0 ops Q (o :: l) t m := fun a w hf hm =>
  wpList_plain hg fun K hK => by
    have hxs : xs.map a.eval = args := by
      apply Array.ext'
      rw [← hx, Array.toList_map]
      exact List.map_congr_left fun x _ => hf.eval x
    have hrun : (execOp a.eval o).run P w = .ok (.enter f args) w := by
      have : execOp a.eval o = callFunc f (#[] ++ xs.map a.eval ++ #[]) := by
        obtain ⟨dst, op, ty, pos, aft, g⟩ := o
        subst ho
        rfl
      rw [this, hxs]
      simpa using h.ent.run args w
    unfold Oper.wp
    rw [hrun]
    refine (h.calls w (hp w hm)).mono ?_
    rintro e' w' ⟨v, m', rfl, hm', hR⟩
    exact hK _ _ (by rw [hd]; exact k v m' hR _ _ (hf.put (Nat.le_of_ble_eq_true hN) v) (hm.append hm'))

/-! ### New lists -/
theorem Wl.mkS {o : Oper} {d sz len : Nat} {z : Value} {ps : Array (Nat × Operand)} {cells : Array Value} (hg : o.guard = none) (hd : o.dst = some d) (hN : Nat.ble (d + 1) N = true) (ho : o.op = .buildSlice T len ps)
    (hu : P.underlying T = some (.slice e)) (hs : (P.info? e).map (·.size) = some sz) (hz : ∀ w, (zeroValue e).run P w = .ok z w) (hb : Nat.ble (len * sz) 16777216 = true)
    (hf : Instr.fill (fun i => some (i * sz, sz)) ((Array.range (len * sz)).map (z.cells[· % z.cells.size]!)) (ps.toList.map fun q => (q.1, ev t q.2)) = some cells)
    (k : ∀ b, Wl P N w0 ops Q l (upd t d (.slice (some ⟨b, 0, none⟩) len len)) (.blk b e cells :: m)) : Wl P N w0 ops Q (o :: l) t m := fun a w hfit hm =>
  wpList_plain hg fun K hK => by
    have hps : (ps.map fun (i, x) => (i, a.eval x)).toList = ps.toList.map fun q => (q.1, ev t q.2) := by
      rw [Array.toList_map]
      exact List.map_congr_left fun q hq => by simp [hfit.eval]
    cases hq : P.info? e with
    | none => simp [hq] at hs
    | some i =>
      have hs' : i.size = sz := by simpa [hq] using hs
      have hsz : (sizeOf e).run P w = .ok sz w := by simp [sizeOf, typeInfo, hq, hs']
      have hbig : ¬ len * sz > 2 ^ 24 := by have := Nat.le_of_ble_eq_true hb; omega
      have hrun : (execOp a.eval o).run P w = .ok (.value (.slice (some ⟨w.heap.size, 0, none⟩) len len)) (w.alloc (.cells cells e)) := by
        obtain ⟨dst, op, ty, pos, aft, g⟩ := o
        simp only at ho
        subst ho
        have hr0 : Array.range 0 = #[] := rfl
        by_cases h0 : len * sz = 0
        · have hf' : Instr.fill (fun i => some (i * sz, sz)) #[] (ps.map fun (i, x) => (i, a.eval x)).toList = some cells := by
            rw [hps]
            simpa [h0, hr0] using hf
          simp only [Array.toList_map] at hf'
          simp [execOp, Instr.buildSlice, run_underlying hu, Sem.run_bind, hsz, hbig, h0, hr0, hf', newRow, newObj]
          rfl
        · have hf' := hf
          rw [← hps] at hf'
          simp only [Array.toList_map] at hf'
          simp [execOp, Instr.buildSlice, run_underlying hu, Sem.run_bind, hsz, hbig, h0, hz, hf', newRow, newObj]
          rfl
      unfold Oper.wp
      rw [hrun]
      exact hK _ _ (by rw [hd]; exact k w.heap.size _ _ (hfit.put (Nat.le_of_ble_eq_true hN) _) (hm.alloc e cells))
theorem Mem.toRow {w : World} {b sz n cap : Nat} {cs : Array Value} (h : Mem w0 (.blk b e cs :: m) w) (hc : cs.size = cap * sz) (hn : n ≤ cap) (hm : cap ≤ maxLen) :
    Mem w0 (.row (.slice (some ⟨b, 0, none⟩) n cap) e sz n (cs.toList.take (n * sz)) :: m) w := by
  have ho := h.ok _ (.head _)
  refine Repl.keeps (Repl.here m) h h.below ⟨?_, .inr ⟨b, cap, cs, rfl, ho.1, ho.2, hn, hm, hc, rfl⟩⟩ (fun k hk => .inl hk) (fun k _ _ => rfl)
  rw [List.length_take, Array.length_toList, hc, Nat.min_eq_left (Nat.mul_le_mul_right _ hn)]
/-- A list literal that is to be added to. -/
theorem Wl.mkL {o : Oper} {d sz len : Nat} {z : Value} {ps : Array (Nat × Operand)} {cells : Array Value} (hg : o.guard = none) (hd : o.dst = some d) (hN : Nat.ble (d + 1) N = true) (ho : o.op = .buildSlice T len ps)
    (hu : P.underlying T = some (.slice e)) (hs : (P.info? e).map (·.size) = some sz) (hz : ∀ w, (zeroValue e).run P w = .ok z w) (hb : Nat.ble (len * sz) 16777216 = true) (hl : Nat.ble len maxLen = true)
    (hf : Instr.fill (fun i => some (i * sz, sz)) ((Array.range (len * sz)).map (z.cells[· % z.cells.size]!)) (ps.toList.map fun q => (q.1, ev t q.2)) = some cells) (hc : cells.size = len * sz)
    (k : ∀ b, Wl P N w0 ops Q l (upd t d (.slice (some ⟨b, 0, none⟩) len len)) (.row (.slice (some ⟨b, 0, none⟩) len len) e sz len cells.toList :: m)) : Wl P N w0 ops Q (o :: l) t m :=
  Wl.mkS hg hd hN ho hu hs hz hb hf fun b a w hfit hm => k b a w hfit (by
    have := hm.toRow (n := len) (cap := len) (sz := sz) hc (Nat.le_refl _) (Nat.le_of_ble_eq_true hl)
    rwa [List.take_of_length_le (by simp [hc])] at this)
/-- 'append': the row's new block is its old one, or a new one. -/
theorem append_block {w : World} {base : Nat} {t ty : TypeId} {i : TypeInfo} {z : Value} {size bytes : Nat} (ht : P.underlying t = some (.slice e)) (hi : P.info? e = some i) (hz : i.zero = some z)
    (hsize : i.size = size) (hby : i.bytes = bytes) (hzs : z.cells.size = size) (hsz : 0 < size)
    {v : Value} {n : Nat} {xs : List Value} (hown : w.ownsRow base e size v n xs)
    {a : Addr} {m c : Nat} {news : List Value} (hl : news.length = m * size) (hnews : ∀ j u, news[j]? = some u → w.cell? (a.add j) = some u) (h1 : ∀ u ∈ news, u.oneCell' = true)
    (h63 : n + m ≤ maxLen) (hbytes : (n + m) * bytes ≤ 140737488355328) (hbase : base ≤ w.heap.size) :
    ∃ v' w', (Builtin.append_ #[t, t] ty #[v, .slice (some a) m c]).run P w = .ok v' w' ∧ w'.ownsRow base e size v' (n + m) (xs ++ news) ∧ w.grownBy w' v.ownBlock ∧ (∀ k, v'.ownBlock = some k → v.ownBlock = some k ∨ w.heap.size ≤ k) := by
  rcases hown.2 with ⟨rfl, rfl⟩ | ⟨g, cap, cur, rfl, hbg, hg, hnc, hcm, hcs, htake⟩
  · have hx : xs = [] := List.eq_nil_of_length_eq_zero (by simpa using hown.1)
    subst hx
    obtain ⟨v', w', hr, h2, h3, _⟩ := run_append_own (P := P) w w.heap.size t ty e i z size bytes ht hi hz hsize hby hzs hsz _ 0 [] (World.ownsRow_nil w w.heap.size e size) a m c news hl hnews h1 h63 hbytes (Nat.le_refl _)
    exact ⟨v', w', hr, Itm.lower (x := .row v' e size (0 + m) ([] ++ news)) h2 hbase, h3, fun k hk => .inr (h2.lt k hk).1⟩
  · obtain ⟨v', w', hr, h2, h3, _⟩ := run_append_own (P := P) w base t ty e i z size bytes ht hi hz hsize hby hzs hsz _ n xs hown a m c news hl hnews h1 h63 hbytes hbase
    refine ⟨v', w', hr, h2, h3, fun k hk => ?_⟩
    subst hsize
    subst hby
    by_cases hroom : n + m ≤ cap
    · have hfit : n * i.size + news.length ≤ cur.size := by rw [hl, hcs, ← Nat.add_mul]; exact Nat.mul_le_mul_right _ hroom
      rw [run_append_room (P := P) w t ty e i ht hi g n cap cur hg a m c news hl hnews h1 hroom hfit] at hr
      cases hr
      exact .inl hk
    · have hsmall : n + m ≤ 9223372036854775807 := by simp only [maxLen] at h63; omega
      rw [run_append_grow (P := P) w t ty e i z ht hi hz ⟨g, 0, none⟩ n cap xs hown.1 (hown.cells (g := g) rfl) a m c news hl hnews (by omega) (by omega) (growslice_fits (by omega) hbytes)] at hr
      cases hr
      simp only [Value.ownBlock, Option.some.injEq] at hk
      exact .inr (by omega)
/-- 'append(s, x)'. -/
theorem Wl.append {o : Oper} {d sz bytes n mm c b : Nat} {z v : Value} {xs : List Value} {cs : Array Value} {m' : Value → List Itm} (hg : o.guard = none) (hd : o.dst = some d) (hN : Nat.ble (d + 1) N = true) (ho : o.op = .call { callee := .builtin .append, args := #[x, y], argTypes := #[T, T] })
    (hu : P.underlying T = some (.slice e)) (hi : (P.info? e).map (fun i => (i.zero, i.size, i.bytes)) = some (some z, sz, bytes)) (hzs : z.cells.size = sz) (hsz : Nat.blt 0 sz = true)
    (hx : ev t x = v) (hy : ev t y = .slice (some ⟨b, 0, none⟩) mm c) (hb : .blk b e cs ∈ m) (hl : cs.size = mm * sz) (h1 : cs.toList.all (·.oneCell') = true)
    (h63 : n + mm ≤ maxLen) (hbytes : (n + mm) * bytes ≤ 140737488355328) (hr : ∀ v', Repl (.row v e sz n xs) (.row v' e sz (n + mm) (xs ++ cs.toList)) m (m' v'))
    (k : ∀ v', Wl P N w0 ops Q l (upd t d v') (m' v')) : Wl P N w0 ops Q (o :: l) t m := fun a w hf hm => by
  obtain ⟨i, hi0, hi1, hi2, hi3⟩ := info_parts hi
  have hown : w.ownsRow w0.heap.size e sz v n xs := hm.ok _ (hr .nilIface).mem
  obtain ⟨v', w', hr2, hrow, hgrow, hfoot⟩ := append_block (P := P) (w := w) (base := w0.heap.size) (ty := o.type) (a := ⟨b, 0, none⟩) (m := mm) (c := c) hu hi0 hi1 hi2 hi3 hzs (Nat.le_of_ble_eq_true hsz) hown (by simpa using hl) (news := cs.toList)
    (fun j u hj => by
      have := cell_of_mem hm hb (off := j) (v := u) (by simpa using hj)
      rw [Addr.add_lit]
      simpa using this) (fun u hu' => List.all_eq_true.1 h1 u hu') h63 hbytes hm.base
  refine wpList_plain hg fun K hK' => ?_
  have e1 : a.eval x = v := (hf.eval x).trans hx
  have e2 : a.eval y = _ := (hf.eval y).trans hy
  have hrun : (execOp a.eval o).run P w = .ok (.value v') w' := by
    obtain ⟨dst, op, ty, pos, aft, g⟩ := o
    simp only at ho
    subst ho
    simp [execOp, resolve, invoke, builtin, e1, e2, hr2, Sem.run_bind]
  unfold Oper.wp
  rw [hrun]
  refine hK' _ _ ?_
  rw [hd]
  refine k v' _ _ (hf.put (Nat.le_of_ble_eq_true hN) v') ?_
  have hlt := hown.lt
  refine (hr v').keeps hm ?_ hrow (fun k hk => hfoot k hk) (fun k hk hne => hgrow.block k hk fun e' => hne e'.symm)
  exact hm.below.trans ⟨hgrow.os, hgrow.tape, hgrow.output, hgrow.size, fun k hk => hgrow.block k (Nat.lt_of_lt_of_le hk hm.base) fun e' => by
    have := (hlt k e'.symm).1
    omega⟩
/-! ### A row, opened -/
theorem row_open {w : World} {v : Value} {sz n : Nat} {xs : List Value} {m1 : List Itm} {m2 : Nat → Array Value → List Itm} (hm : Mem w0 m w) (hr : ∀ g cur, Repl (.row v e sz n xs) (.blk g e cur) m (m2 g cur)) (hs : List.Sublist m1 m) :
    (n = 0 ∧ ∃ a c, v = .slice a 0 c) ∨ ∃ g cap cur, v = .slice (some ⟨g, 0, none⟩) n cap ∧ cur.toList.take (n * sz) = xs ∧ n * sz ≤ cur.size ∧ Mem w0 (m2 g cur) w := by
  have ho := hm.ok _ (hr 0 #[]).mem
  rcases ho.2 with ⟨hv, hn⟩ | ⟨g, cap, cur, hv, hb, hg, hnc, hcm, hcs, ht⟩
  · exact .inl ⟨hn, none, 0, hv⟩
  · refine .inr ⟨g, cap, cur, hv, ht, by rw [hcs]; exact Nat.mul_le_mul_right _ hnc, ?_⟩
    exact (hr g cur).keeps hm hm.below ⟨hb, hg⟩ (fun k hk => .inl (by rw [hv]; exact hk)) (fun k _ _ => rfl)
theorem Y.loadS0 {b T1 off n : Nat} {d : TypeDesc} {cs : Array Value} (hx : ev t x = .pointer (some ⟨b, off, none⟩)) (hu : P.underlying T = some d) (hd : plainD d = false) (hb : w0.heap[b]? = some (.cells cs T1 (0, 0))) (hi : (P.info? T).map (·.size) = some n) (hn : off + n ≤ cs.size) :
    Yv P w0 t m (.load T x) (.agg (cs.extract off (off + n))) := fun ρ o w ho he hm =>
  Y.loadS (w0 := { w0 with heap := #[] }) (m := [.blk b T1 cs]) (t := t) hx hu hd (.head _) hi hn ρ o w ho he ⟨⟨hm.below.os, hm.below.tape, hm.below.output, Nat.zero_le _, fun k hk => by simp at hk⟩, (fun z hz => by
    simp only [List.mem_singleton] at hz
    subst hz
    exact ⟨Nat.zero_le _, old_blk hm hb⟩), .cons (fun _ h => by cases h) .nil⟩
end
end Go.Proofs.Ytfmamihoaklogaa.T
