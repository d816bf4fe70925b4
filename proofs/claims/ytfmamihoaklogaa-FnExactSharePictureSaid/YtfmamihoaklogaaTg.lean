/- Contracts over memory that the caller holds: read, written, handed on (used by the claims of this seat). -/
import Derived.Test.YtfmamihoaklogaaTs
namespace Go.Proofs.Ytfmamihoaklogaa.T
open Go.RowKit
set_option linter.unusedVariables false
set_option linter.unusedSimpArgs false

/-- A call that works on the caller's items m0, and leaves the rest alone. -/
structure FnG (P : Program) (f : FuncId) (args : Array Value) (m0 : List Itm) (R : Value → List Itm → Prop) : Prop where
  ent : Ent P f
  calls : ∀ w0 rest w, Mem w0 (m0 ++ rest) w → Calls P f args w fun e w' => ∃ v m', e = .returned v ∧ Mem w0 (m' ++ rest) w' ∧ R v m'
theorem calls_of_Wm {P : Program} {f : FuncId} {fn : Func} {c : Code} {args : Array Value} {rs : List ResultVar} {R : Value → List Itm → Prop} {N : Nat} {m0 : List Itm} (hf : P.funcs[f]? = some fn) (hN : fn.ntmps = N) (hb : fn.body = some c) (hr : fn.results = rs.toArray) (ha : Nat.ble args.size N = true) {w0 w : World} (hm0 : Mem w0 m0 w)
    (h : W P N w0 c (Rt P N rs R) (fr0 args.toList) m0) : Calls P f args w fun e w' => ∃ v m, e = .returned v ∧ Mem w0 m w' ∧ R v m := by
  subst hN
  refine calls_of_wp hf hb (wp_mono (h _ w (fits_start args fn.ntmps (Nat.le_of_ble_eq_true ha)) hm0) ?_)
  rintro e a w' ⟨t, m, hft, hm, hq⟩
  cases e with
  | normal =>
    unfold Rt at hq
    obtain ⟨vs, hv, hR⟩ := hq
    exact ⟨hft.defers, _, hv.results hr hft hm, _, m, rfl, hm, hR⟩
  | ret =>
    unfold Rt at hq
    obtain ⟨vs, hv, hR⟩ := hq
    exact ⟨hft.defers, _, hv.results hr hft hm, _, m, rfl, hm, hR⟩
  | _ =>
    unfold Rt at hq
    exact hq.elim
theorem fnG_of_W {P : Program} {f : FuncId} {fn : Func} {c : Code} {args : Array Value} {rs : List ResultVar} {R : Value → List Itm → Prop} {N : Nat} {m0 : List Itm} (hf : P.funcs[f]? = some fn) (hN : fn.ntmps = N) (hn : (fn.name == "runtime.NumGoroutine") = false) (hb : fn.body = some c) (hr : fn.results = rs.toArray) (ha : Nat.ble args.size N = true)
    (h : ∀ w0 rest, W P N w0 c (Rt P N rs fun v m => ∃ m', R v m' ∧ List.Sublist (m' ++ rest) m) (fr0 args.toList) (m0 ++ rest)) : FnG P f args m0 R :=
  ⟨.mk' hf hn hb, fun w0 rest w hm => (calls_of_Wm hf hN hb hr ha hm (h w0 rest)).mono fun e w' ⟨v, m, he, hm', m', hR, hs⟩ => ⟨v, m', he, hm'.sub hs, hR⟩⟩
/-- One of a list, and the others. -/
inductive Pick (x : Itm) : List Itm → List Itm → Prop where
  | here (r : List Itm) : Pick x (x :: r) r
  | there (z : Itm) {r r' : List Itm} : Pick x r r' → Pick x (z :: r) (z :: r')
theorem Pick.perm {x : Itm} {m r : List Itm} (h : Pick x m r) : List.Perm m (x :: r) := by
  induction h with
  | here r => exact .refl _
  | there z _ ih => exact (List.Perm.cons z ih).trans (.swap _ _ _)
theorem apart_symm {x y : Itm} (h : apart x y) : apart y x := fun k hy hx => h k hx hy
theorem Mem.perm {w0 w : World} {m m' : List Itm} (h : Mem w0 m w) (hp : List.Perm m m') : Mem w0 m' w :=
  ⟨h.below, fun z hz => h.ok z (hp.mem_iff.2 hz), hp.pairwise h.apart fun hab => apart_symm hab⟩
/-- Several of a list, and the others. -/
inductive Picks : List Itm → List Itm → List Itm → Prop where
  | nil (m : List Itm) : Picks [] m m
  | cons {x : Itm} {m0 m r r' : List Itm} : Pick x m r → Picks m0 r r' → Picks (x :: m0) m r'
theorem Picks.perm {m0 m r : List Itm} (h : Picks m0 m r) : List.Perm m (m0 ++ r) := by
  induction h with
  | nil m => exact .refl _
  | cons h1 _ ih => exact h1.perm.trans (ih.cons _)
section
variable {P : Program} {N : Nat} {w0 : World} {Q : Pst} {t : Fr} {m : List Itm} {ops : Array Oper} {l : List Oper} {x y : Operand} {T e : TypeId}
theorem W.sub {c : Code} {m1 : List Itm} (hs : List.Sublist m1 m) (h : W P N w0 c Q t m1) : W P N w0 c Q t m := fun a w hf hm => h a w hf (hm.sub hs)
theorem Wl.sub {m1 : List Itm} (hs : List.Sublist m1 m) (h : Wl P N w0 ops Q l t m1) : Wl P N w0 ops Q l t m := fun a w hf hm => h a w hf (hm.sub hs)
theorem W.perm {c : Code} {m1 : List Itm} (hs : List.Perm m m1) (h : W P N w0 c Q t m1) : W P N w0 c Q t m := fun a w hf hm => h a w hf (hm.perm hs)
theorem Wl.perm {m1 : List Itm} (hs : List.Perm m m1) (h : Wl P N w0 ops Q l t m1) : Wl P N w0 ops Q l t m := fun a w hf hm => h a w hf (hm.perm hs)
theorem Wl.callG {o : Oper} {d : Nat} {f : FuncId} {xs : Array Operand} {ts : Array TypeId} {args : Array Value} {m0 r : List Itm} {R : Value → List Itm → Prop} (hg : o.guard = none) (hd : o.dst = some d) (hN : Nat.ble (d + 1) N = true) (ho : o.op = .call { callee := .value (.func f), args := xs, argTypes := ts })
    (h : FnG P f args m0 R) (hx : xs.toList.map (ev t) = args.toList) (hp : Picks m0 m r)
    (k : ∀ v m', R v m' → Wl P N w0 ops Q l (upd t d v) (m' ++ r)) : Wl P N w0 ops Q (o :: l) t m := fun a w hf hm =>
  wpList_plain hg fun K hK => by
    have hxs : xs.map a.eval = args := by
      apply Array.ext'
      rw [← hx, Array.toList_map]
      exact List.map_congr_left fun x _ => hf.eval x
    have hrun : (execOp a.eval o).run P w = .ok (.enter f args) w := by
      have : execOp a.eval o = callFunc f (#[] ++ xs.map a.eval ++ #[]) := by
        obtain ⟨dst, op, ty, pos, aft, g⟩ := o
        subst ho
        rfl
      rw [this, hxs]
      simpa using h.ent.run args w
    unfold Oper.wp
    rw [hrun]
    refine (h.calls w0 r w (hm.perm hp.perm)).mono ?_
    rintro e' w' ⟨v, m', rfl, hm', hR⟩
    exact hK _ _ (by rw [hd]; exact k v m' hR _ _ (hf.put (Nat.le_of_ble_eq_true hN) v) hm')
/-- A row, opened: it is empty, or a block. -/
theorem W.row {c : Code} {v : Value} {sz n : Nat} {xs : List Value} {m2 : Nat → Array Value → List Itm} (hr : ∀ g cur, Repl (.row v e sz n xs) (.blk g e cur) m (m2 g cur))
    (h0 : ∀ a cp, n = 0 → v = .slice a 0 cp → W P N w0 c Q t m) (h1 : ∀ g cap cur, v = .slice (some ⟨g, 0, none⟩) n cap → cur.toList.take (n * sz) = xs → n * sz ≤ cur.size → W P N w0 c Q t (m2 g cur)) : W P N w0 c Q t m := fun a w hf hm => by
  rcases row_open (m1 := []) hm hr (List.nil_sublist _) with ⟨hn, ad, cp, hv⟩ | ⟨g, cap, cur, hv, ht, hs, hm2⟩
  · exact h0 ad cp hn hv a w hf hm
  · exact h1 g cap cur hv ht hs a w hf hm2
theorem Wl.row {v : Value} {sz n : Nat} {xs : List Value} {m2 : Nat → Array Value → List Itm} (hr : ∀ g cur, Repl (.row v e sz n xs) (.blk g e cur) m (m2 g cur))
    (h0 : ∀ a cp, n = 0 → v = .slice a 0 cp → Wl P N w0 ops Q l t m) (h1 : ∀ g cap cur, v = .slice (some ⟨g, 0, none⟩) n cap → cur.toList.take (n * sz) = xs → n * sz ≤ cur.size → Wl P N w0 ops Q l t (m2 g cur)) : Wl P N w0 ops Q l t m := fun a w hf hm => by
  rcases row_open (m1 := []) hm hr (List.nil_sublist _) with ⟨hn, ad, cp, hv⟩ | ⟨g, cap, cur, hv, ht, hs, hm2⟩
  · exact h0 ad cp hn hv a w hf hm
  · exact h1 g cap cur hv ht hs a w hf hm2
end
end Go.Proofs.Ytfmamihoaklogaa.T
