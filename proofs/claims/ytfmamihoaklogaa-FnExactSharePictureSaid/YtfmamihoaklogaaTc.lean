/- The logic's rules for control, calls and regions (used by the claims of this seat). -/
import Derived.Test.YtfmamihoaklogaaT
import Derived.Deep.LoopGhost
namespace Go.Proofs.Ytfmamihoaklogaa.T
open Go.RowKit
set_option linter.unusedVariables false
set_option linter.unusedSimpArgs false

abbrev Pst := Exit → Fr → List Itm → Prop
def lift (N : Nat) (w0 : World) (Q : Pst) : Exit → Act → World → Prop := fun e a w => ∃ t m, Fits N a t ∧ Mem w0 m w ∧ Q e t m
def W (P : Program) (N : Nat) (w0 : World) (c : Code) (Q : Pst) (t : Fr) (m : List Itm) : Prop :=
  ∀ a w, Fits N a t → Mem w0 m w → c.wp P (lift N w0 Q) a w
def thn (K : Fr → List Itm → Prop) (Q : Pst) : Pst
  | .normal, t, m => K t m
  | .exit id, t, m => Q (.exit id) t m
  | .goto l, t, m => Q (.goto l) t m
  | .ret, t, m => Q .ret t m
  | .panic c, t, m => Q (.panic c) t m
  | .outgrown, t, m => Q .outgrown t m
def inB (id : Nat) (Q : Pst) : Pst
  | .exit i, t, m => cond (Nat.beq i id) (Q .normal t m) (Q (.exit i) t m)
  | .normal, t, m => Q .normal t m
  | .goto l, t, m => Q (.goto l) t m
  | .ret, t, m => Q .ret t m
  | .panic c, t, m => Q (.panic c) t m
  | .outgrown, t, m => Q .outgrown t m

section
variable {P : Program} {N : Nat} {w0 : World} {Q : Pst} {t : Fr} {m : List Itm}

theorem W.mono {c : Code} {Q' : Pst} (h : W P N w0 c Q t m) (hq : ∀ e t m, Q e t m → Q' e t m) : W P N w0 c Q' t m :=
  fun a w hf hm => wp_mono (h a w hf hm) fun e _ _ ⟨t, m, f, mm, q⟩ => ⟨t, m, f, mm, hq e t m q⟩
theorem W.seq {x y : Code} (h : W P N w0 x (thn (W P N w0 y Q) Q) t m) : W P N w0 (.seq x y) Q t m := fun a w hf hm =>
  wp_seq (wp_mono (h a w hf hm) fun e a' w' ⟨t', m', f', mm', q⟩ => by
    cases e with
    | normal => exact q a' w' f' mm'
    | _ => exact ⟨t', m', f', mm', q⟩)
theorem W.skip (h : Q .normal t m) : W P N w0 .skip Q t m := fun _ _ hf hm => wp_skip ⟨t, m, hf, hm, h⟩
theorem W.exit {id : Nat} (h : Q (.exit id) t m) : W P N w0 (.exit id) Q t m := fun _ _ hf hm => wp_exit ⟨t, m, hf, hm, h⟩
theorem W.ret (h : Q .ret t m) : W P N w0 .ret Q t m := fun _ _ hf hm => wp_ret ⟨t, m, hf, hm, h⟩
theorem W.label {l : Nat} (h : Q .normal t m) : W P N w0 (.label l) Q t m := fun _ _ hf hm => wp_label ⟨t, m, hf, hm, h⟩
theorem W.cond {x : Operand} {c d : Code} {b : Bool} (hx : ev t x = .bool b) (h1 : b = true → W P N w0 c Q t m) (h2 : b = false → W P N w0 d Q t m) :
    W P N w0 (.cond x c d) Q t m := fun a w hf hm =>
  wp_cond_split ((hf.eval x).trans hx) (fun e => h1 e a w hf hm) (fun e => h2 e a w hf hm)
theorem W.block {id : Nat} {c : Code} (h : W P N w0 c (inB id Q) t m) : W P N w0 (.block id c) Q t m := fun a w hf hm =>
  wp_block (wp_mono (h a w hf hm) fun e a' w' ⟨t', m', f', mm', q⟩ => by
    cases e with
    | exit i =>
      by_cases hi : i = id
      · subst hi
        simp only [inB, Nat.beq_refl, cond_true] at q
        simp only [Exit.inBlock, if_true]
        exact ⟨t', m', f', mm', q⟩
      · have hb : Nat.beq i id = false := by
          cases hh : Nat.beq i id
          · rfl
          · exact absurd (Nat.eq_of_beq_eq_true hh) hi
        simp only [inB, hb, cond_false] at q
        simp only [Exit.inBlock, if_neg hi]
        exact ⟨t', m', f', mm', q⟩
    | _ => exact ⟨t', m', f', mm', q⟩)
theorem W.loop {α : Type} {c : Code} (I : α → Fr → List Itm → Prop) (μ : α → Nat) (x0 : α) (h0 : I x0 t m)
    (round : ∀ x t m, I x t m → W P N w0 c (thn (fun t' m' => ∃ y, I y t' m' ∧ μ y < μ x) Q) t m) : W P N w0 (.loop c) Q t m := fun a w hf hm => by
  refine wp_loop_ghost (fun n a w => ∃ x t m, Fits N a t ∧ Mem w0 m w ∧ I x t m ∧ μ x = n) (μ x0) ⟨x0, t, m, hf, hm, h0, rfl⟩ ?_
  rintro n a w ⟨x, t, m, hf, hm, hI, rfl⟩
  refine wp_mono (round x t m hI a w hf hm) ?_
  rintro e a' w' ⟨t', m', f', mm', q⟩
  cases e with
  | normal =>
    obtain ⟨y, hy, hlt⟩ := q
    exact ⟨μ y, hlt, y, t', m', f', mm', hy, rfl⟩
  | _ => exact ⟨t', m', f', mm', q⟩
end

/-! ### Frames at a loop's head -/
def inL (L : List Nat) (n : Nat) : Bool := L.any (Nat.beq n)
def ovr (t0 : Fr) (L : List Nat) (s : Fr) : Fr := fun n => cond (inL L n) (s n) (t0 n)
def updL (t : Fr) : List (Nat × Value) → Fr
  | [] => t
  | p :: r => upd (updL t r) p.1 p.2
def Agree (L : List Nat) (t0 t : Fr) : Prop := ∀ n, inL L n = false → t n = t0 n
def HasL (t : Fr) : List (Nat × Value) → Prop
  | [] => True
  | p :: r => t p.1 = p.2 ∧ HasL t r
theorem Agree.refl (L : List Nat) (t0 : Fr) : Agree L t0 t0 := fun _ _ => rfl
theorem Agree.base (L : List Nat) (t0 s : Fr) : Agree L t0 (ovr t0 L s) := fun n h => by simp [ovr, h]
theorem Agree.inner {L L' : List Nat} {t0 t s : Fr} (h : L'.all (fun n => inL L n) = true) (ha : Agree L t0 t) : Agree L t0 (ovr t L' s) := fun n hn => by
  cases hi : inL L' n with
  | false => simp [ovr, hi, ha n hn]
  | true =>
    exfalso
    have : n ∈ L' := by simpa [inL] using hi
    have := List.all_eq_true.1 h n this
    rw [hn] at this
    cases this
theorem Agree.upd {L : List Nat} {t0 t : Fr} {d : Nat} {v : Value} (hd : inL L d = true) (h : Agree L t0 t) : Agree L t0 (upd t d v) := fun n hn => by
  have : n ≠ d := by
    rintro rfl
    rw [hd] at hn
    cases hn
  rw [upd_ne _ _ this]
  exact h n hn
theorem updL_has {t : Fr} : ∀ {V : List (Nat × Value)}, HasL t V → updL t V = t
  | [], _ => rfl
  | p :: r, h => by
    have ih := updL_has h.2
    funext n
    simp only [updL, ih]
    by_cases e : n = p.1
    · subst e
      rw [upd_self, h.1]
    · rw [upd_ne _ _ e]
theorem reenter {L : List Nat} {t0 t : Fr} {V : List (Nat × Value)} (ha : Agree L t0 t) (hv : HasL t V) : ∃ s, t = updL (ovr t0 L s) V := by
  refine ⟨t, ?_⟩
  have : ovr t0 L t = t := by
    funext n
    cases h : inL L n
    · simp [ovr, h, ha n h]
    · simp [ovr, h]
  rw [this, updL_has hv]

section
variable {P : Program} {N : Nat} {w0 : World} {Q : Pst} {t0 : Fr} {m : List Itm}
/-- A loop: L: the slots that the body writes; V: what those slots hold that are read later; M: the blocks; G: what is known. -/
theorem W.loopF {α : Type} {c : Code} (L : List Nat) (V : α → List (Nat × Value)) (M : α → List Itm) (G : α → Prop) (μ : α → Nat) (x0 : α)
    (hv : HasL t0 (V x0)) (hm : List.Sublist (M x0) m) (hg : G x0)
    (round : ∀ x s, G x → W P N w0 c (thn (fun t' m' => ∃ y, Agree L t0 t' ∧ HasL t' (V y) ∧ List.Sublist (M y) m' ∧ G y ∧ μ y < μ x) Q) (updL (ovr t0 L s) (V x)) (M x)) :
    W P N w0 (.loop c) Q t0 m := by
  intro a w hf hmm
  refine (W.loop (m := M x0) (fun x t m => (∃ s, t = updL (ovr t0 L s) (V x)) ∧ m = M x ∧ G x) μ x0 ⟨reenter (Agree.refl L t0) hv, rfl, hg⟩ ?_) a w hf (hmm.sub hm)
  rintro x t m ⟨⟨s, rfl⟩, rfl, hg⟩
  intro a w hf hm
  refine wp_mono (round x s hg a w hf hm) ?_
  rintro e a' w' ⟨t', m', f', mm', q⟩
  cases e with
  | normal =>
    obtain ⟨y, h1, h2, h3, h4, h5⟩ := q
    exact ⟨t', M y, f', mm'.sub h3, y, ⟨reenter h1 h2, rfl, h4⟩, h5⟩
  | _ => exact ⟨t', m', f', mm', q⟩
end

/-! ### Operations in their order -/
def Wl (P : Program) (N : Nat) (w0 : World) (ops : Array Oper) (Q : Pst) (l : List Oper) (t : Fr) (m : List Itm) : Prop :=
  ∀ a w, Fits N a t → Mem w0 m w → wpList P ops (lift N w0 Q) l a w
/-- What an operation yields, over whatever frame gives its operands these values. -/
def Yv (P : Program) (w0 : World) (t : Fr) (m : List Itm) (op : Op) (v : Value) : Prop :=
  ∀ (ρ : Operand → Value) (o : Oper) w, o.op = op → (∀ x ∈ op.operands, ρ x = ev t x) → Mem w0 m w → (execOp ρ o).run P w = .ok (.value v) w
/-- The same of one that may also make what nobody else looks at. -/
def Qt (P : Program) (w0 : World) (t : Fr) (m : List Itm) (op : Op) (v : Value) : Prop :=
  ∀ (a : Act) (o : Oper) w (K : Act → World → Prop) (Q : Exit → Act → World → Prop), o.op = op → (∀ x ∈ op.operands, a.eval x = ev t x) → Mem w0 m w → (∀ w', Below w.heap.size w w' → K (a.put o.dst v) w') → o.wp P a w K Q
section
variable {P : Program} {N : Nat} {w0 : World} {Q : Pst} {t : Fr} {m : List Itm} {ops : Array Oper} {l : List Oper}
theorem Yv.qt {op : Op} {v : Value} (h : Yv P w0 t m op v) : Qt P w0 t m op v := fun a o w K Q ho he hm hk => by
  have := h a.eval o w ho he hm
  unfold Oper.wp
  rw [this]
  exact hk w (Below.refl _ _)
theorem W.region {id : Nat} {l : List Oper} (h : Wl P N w0 l.toArray Q l t m) : W P N w0 (.region id l.toArray false) Q t m := fun a w hf hm => wp_region_lit (h a w hf hm)
theorem Wl.nil (h : Q .normal t m) : Wl P N w0 ops Q [] t m := fun _ _ hf hm => wpList_nil ⟨t, m, hf, hm, h⟩
theorem Wl.qt {o : Oper} {d : Nat} {v : Value} (hg : o.guard = none) (hd : o.dst = some d) (hN : Nat.ble (d + 1) N = true) (h : Qt P w0 t m o.op v) (k : Wl P N w0 ops Q l (upd t d v) m) : Wl P N w0 ops Q (o :: l) t m := fun a w hf hm =>
  wpList_plain hg fun K hK => h a o w K _ rfl (fun x _ => hf.eval x) hm fun w' hb => hK _ _ (by rw [hd]; exact k _ _ (hf.put (Nat.le_of_ble_eq_true hN) v) (hm.step hb))
theorem Wl.y {o : Oper} {d : Nat} {v : Value} (hg : o.guard = none) (hd : o.dst = some d) (hN : Nat.ble (d + 1) N = true) (h : Yv P w0 t m o.op v) (k : Wl P N w0 ops Q l (upd t d v) m) : Wl P N w0 ops Q (o :: l) t m := Wl.qt hg hd hN h.qt k
end

/-! ### Calls -/
structure Ent (P : Program) (f : FuncId) : Prop where
  out : ∃ fn c, P.funcs[f]? = some fn ∧ (fn.name == "runtime.NumGoroutine") = false ∧ fn.body = some c
theorem Ent.mk' {P : Program} {f : FuncId} {fn : Func} {c : Code} (h1 : P.funcs[f]? = some fn) (h2 : (fn.name == "runtime.NumGoroutine") = false) (h3 : fn.body = some c) : Ent P f := ⟨fn, c, h1, h2, h3⟩
theorem Ent.run {P : Program} {f : FuncId} (h : Ent P f) (args : Array Value) (w : World) : (callFunc f args).run P w = .ok (.enter f args) w := by
  obtain ⟨fn, c, h1, h2, h3⟩ := h.out
  have hne : fn.name ≠ "runtime.NumGoroutine" := by simpa using h2
  have hbn : fn.body ≠ none := by rw [h3]; simp
  simp [callFunc, program, h1, hne, hbn, Sem.run]
/-- A call of a function that gives r, and leaves what there was as it was; pre: what it asks of the world. -/
structure Fn (P : Program) (f : FuncId) (args : Array Value) (pre : World → Prop) (r : Value) : Prop where
  ent : Ent P f
  calls : ∀ w, pre w → Calls P f args w fun e w' => e = .returned r ∧ Below w.heap.size w w'
abbrev tt : World → Prop := fun _ => True
section
variable {P : Program} {N : Nat} {w0 : World} {Q : Pst} {t : Fr} {m : List Itm} {ops : Array Oper} {l : List Oper}
theorem Qt.call {f : FuncId} {xs : Array Operand} {ts : Array TypeId} {args : Array Value} {pre : World → Prop} {r : Value} (h : Fn P f args pre r) (hx : xs.toList.map (ev t) = args.toList) (hp : ∀ w, Mem w0 m w → pre w) :
    Qt P w0 t m (.call { callee := .value (.func f), args := xs, argTypes := ts }) r := fun a o w K Q ho he hm hk => by
  have hxs : xs.map a.eval = args := by
    apply Array.ext'
    rw [← hx, Array.toList_map]
    exact List.map_congr_left fun x hx => he x (by simp [Op.operands, Call.operands]; exact .inr (by simpa using hx))
  have hrun : (execOp a.eval o).run P w = .ok (.enter f args) w := by
    have : execOp a.eval o = callFunc f (#[] ++ xs.map a.eval ++ #[]) := by
      obtain ⟨dst, op, ty, pos, aft, g⟩ := o
      subst ho
      rfl
    rw [this, hxs]
    simpa using h.ent.run args w
  unfold Oper.wp
  rw [hrun]
  refine (h.calls w (hp w hm)).mono ?_
  rintro e w' ⟨rfl, hb⟩
  exact hk w' hb
/-- A call of a function value. -/
theorem Qt.callv {c : Operand} {f : FuncId} {cap : Array Value} {xs : Array Operand} {ts : Array TypeId} {args : Array Value} {pre : World → Prop} {r : Value} (hc : ev t c = .func (.func f) #[] cap) (h : Fn P f args pre r) (hx : xs.toList.map (ev t) ++ cap.toList = args.toList) (hp : ∀ w, Mem w0 m w → pre w) :
    Qt P w0 t m (.call { callee := .value c, args := xs, argTypes := ts }) r := fun a o w K Q ho he hm hk => by
  have hcv : a.eval c = .func (.func f) #[] cap := (he c (by simp [Op.operands, Call.operands])).trans hc
  have hxs : xs.map a.eval ++ cap = args := by
    apply Array.ext'
    rw [← hx, Array.toList_append, Array.toList_map]
    congr 1
    exact List.map_congr_left fun x hx => he x (by simp [Op.operands, Call.operands]; exact .inr (by simpa using hx))
  have hrun : (execOp a.eval o).run P w = .ok (.enter f args) w := by
    obtain ⟨dst, op, ty, pos, aft, g⟩ := o
    simp only at ho
    subst ho
    have e1 : execOp a.eval { dst, op := .call { callee := .value c, args := xs, argTypes := ts }, type := ty, pos, after := aft, guard := g } = (do let d ← Deferred.ofValue (a.eval c) (xs.map a.eval); invoke d.target d.args) := rfl
    rw [e1, hcv]
    have e2 : (Deferred.ofValue (.func (.func f) #[] cap) (xs.map a.eval)).run P w = .ok { target := .fn (.func f) cap, args := #[] ++ xs.map a.eval } w := rfl
    rw [Sem.run_bind, e2]
    simp only [Result.andThen_ok, invoke]
    rw [Array.empty_append, hxs]
    exact h.ent.run args w
  unfold Oper.wp
  rw [hrun]
  refine (h.calls w (hp w hm)).mono ?_
  rintro e w' ⟨rfl, hb⟩
  exact hk w' hb
/-- What is asked of a world stays true. -/
def Stays (pre : World → Prop) : Prop := ∀ w w', pre w → Below w.heap.size w w' → pre w'
theorem Stays.at_ {pre : World → Prop} (h : Stays pre) (h0 : pre w0) : ∀ w, Mem w0 m w → pre w := fun w hm => h w0 w h0 hm.below
theorem Stays.blk (b : Nat) (o : Obj) : Stays fun w => w.heap[b]? = some o := fun w w' h hb => (hb.block b (Array.getElem?_eq_some_iff.1 h).1).trans h
theorem Stays.tt : Stays tt := fun _ _ _ _ => trivial
theorem Stays.and {p q : World → Prop} (h1 : Stays p) (h2 : Stays q) : Stays fun w => p w ∧ q w := fun w w' h hb => ⟨h1 w w' h.1 hb, h2 w w' h.2 hb⟩
end
end Go.Proofs.Ytfmamihoaklogaa.T
