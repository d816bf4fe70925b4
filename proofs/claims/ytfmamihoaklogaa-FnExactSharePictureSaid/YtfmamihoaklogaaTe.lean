/- The logic's rules for a function's begin and end, and for regions whose order is open (used by the claims of this seat). -/
import Derived.Test.YtfmamihoaklogaaTm
namespace Go.Proofs.Ytfmamihoaklogaa.T
open Go.RowKit
set_option linter.unusedVariables false
set_option linter.unusedSimpArgs false

/-! ### Results -/
inductive Rvs (P : Program) (t : Fr) (m : List Itm) : List ResultVar → List Value → Prop where
  | nil : Rvs P t m [] []
  | tmp {u : Tmp} {v : Value} {rs : List ResultVar} {vs : List Value} (hv : t u = v) (h : Rvs P t m rs vs) : Rvs P t m (.tmp u :: rs) (v :: vs)
  | cell {p : Tmp} {ty T b : Nat} {cs : Array Value} {d : TypeDesc} {rs : List ResultVar} {vs : List Value} (hp : t p = .pointer (some ⟨b, 0, none⟩)) (hb : .blk b T cs ∈ m) (hu : P.underlying ty = some d) (hd : plainD d = false)
      (hi : (P.info? ty).map (·.size) = some cs.size) (h : Rvs P t m rs vs) : Rvs P t m (.cell p ty :: rs) (.agg cs :: vs)
  | cell1 {p : Tmp} {ty T b : Nat} {cs : Array Value} {v : Value} {d : TypeDesc} {rs : List ResultVar} {vs : List Value} (hp : t p = .pointer (some ⟨b, 0, none⟩)) (hb : .blk b T cs ∈ m) (hu : P.underlying ty = some d) (hd : plainD d = true)
      (hc : cs[0]? = some v) (h : Rvs P t m rs vs) : Rvs P t m (.cell p ty :: rs) (v :: vs)
section
variable {P : Program} {N : Nat} {w0 : World} {t : Fr} {m : List Itm}
theorem Rvs.run {rs : List ResultVar} {vs : List Value} (h : Rvs P t m rs vs) (f : ResultVar → Sem Value) {a : Act} {w : World} (hf : Fits N a t) (hm : Mem w0 m w)
    (h1 : ∀ u, f (.tmp u) = pure (a.tmps.getD u undef)) (h2 : ∀ p ty, f (.cell p ty) = (do loadVar ty (← asAddr (a.tmps.getD p undef)))) : (rs.mapM f).run P w = .ok vs w := by
  induction h with
  | nil => simp
  | tmp hv h ih => simp only [List.mapM_cons, h1, hf.get, hv]; simp [ih]
  | cell hp hb hu hd hi h ih =>
    rename_i p ty T b cs d rs vs
    have hr := run_loadVar_row (P := P) w b T ty cs (0, 0) d (hm.ok _ hb).2 hu (by cases d <;> simp_all [plainD]) hi
    rw [List.mapM_cons, h2, hf.get, hp]
    simp [asAddr, hr, ih]
  | cell1 hp hb hu hd hc h ih =>
    have hr := run_load_cell (P := P) hu hd (cell_of_mem hm hb hc)
    rw [List.mapM_cons, h2, hf.get, hp]
    simp [asAddr, hr, ih]
def tup : List Value → Value
  | [v] => v
  | vs => .tuple vs.toArray
theorem Rvs.results {fn : Func} {rs : List ResultVar} {vs : List Value} (hr : fn.results = rs.toArray) (h : Rvs P t m rs vs) {a : Act} {w : World} (hf : Fits N a t) (hm : Mem w0 m w) : (results fn a.tmps).run P w = .ok (tup vs) w := by
  unfold Go.results
  rw [hr, List.mapM_toArray]
  simp only [Sem.run_bind, Sem.run_map]
  rw [h.run _ hf hm (fun _ => rfl) (fun _ _ => rfl)]
  cases vs with
  | nil => simp [tup]
  | cons v vs =>
    cases vs with
    | nil => simp [tup]
    | cons u vs => simp [tup]
end
/-- What a function's end has to show. -/
def Rt (P : Program) (N : Nat) (rs : List ResultVar) (R : Value → List Itm → Prop) : Pst
  | .normal, t, m => ∃ vs, Rvs P t m rs vs ∧ R (tup vs) m
  | .ret, t, m => ∃ vs, Rvs P t m rs vs ∧ R (tup vs) m
  | _, _, _ => False
theorem Rt.intro_r {P : Program} {N : Nat} {rs : List ResultVar} {R : Value → List Itm → Prop} {t : Fr} {m : List Itm} {vs : List Value} (h : Rvs P t m rs vs) (hR : R (tup vs) m) : Rt P N rs R .ret t m := ⟨vs, h, hR⟩
theorem Rt.intro_n {P : Program} {N : Nat} {rs : List ResultVar} {R : Value → List Itm → Prop} {t : Fr} {m : List Itm} {vs : List Value} (h : Rvs P t m rs vs) (hR : R (tup vs) m) : Rt P N rs R .normal t m := ⟨vs, h, hR⟩

theorem fits_start (args : Array Value) (N : Nat) (h : args.size ≤ N) : Fits N { tmps := args ++ Array.replicate (N - args.size) undef, defers := [] } (fr0 args.toList) := by
  refine ⟨by simp; omega, fun n => ?_, rfl⟩
  simp only [fr0]
  by_cases hn : n < args.size
  · simp [Array.getElem?_append_left hn]
  · rw [Array.getD_eq_getD_getElem?, Array.getElem?_append_right (by omega)]
    have : args.toList[n]? = none := by simp; omega
    rw [List.getD_eq_getElem?_getD, this]
    by_cases h2 : n - args.size < N - args.size
    · simp [Array.getElem?_replicate, h2]
    · simp [Array.getElem?_replicate, h2]

section
variable {P : Program} {f : FuncId} {fn : Func} {c : Code} {args : Array Value} {rs : List ResultVar}
theorem calls_of_W {R : Value → List Itm → Prop} {N : Nat} (hf : P.funcs[f]? = some fn) (hN : fn.ntmps = N) (hb : fn.body = some c) (hr : fn.results = rs.toArray) (ha : Nat.ble args.size N = true) {w : World}
    (h : W P N w c (Rt P N rs R) (fr0 args.toList) []) : Calls P f args w fun e w' => ∃ v m, e = .returned v ∧ Mem w m w' ∧ R v m := by
  subst hN
  refine calls_of_wp hf hb (wp_mono (h _ w (fits_start args fn.ntmps (Nat.le_of_ble_eq_true ha)) (Mem.start w)) ?_)
  rintro e a w' ⟨t, m, hft, hm, hq⟩
  cases e with
  | normal =>
    obtain ⟨vs, hv, hR⟩ := hq
    exact ⟨hft.defers, _, hv.results hr hft hm, _, m, rfl, hm, hR⟩
  | ret =>
    obtain ⟨vs, hv, hR⟩ := hq
    exact ⟨hft.defers, _, hv.results hr hft hm, _, m, rfl, hm, hR⟩
  | _ => exact hq.elim
theorem fn_of_W {r : Value} {pre : World → Prop} {N : Nat} (hf : P.funcs[f]? = some fn) (hN : fn.ntmps = N) (hn : (fn.name == "runtime.NumGoroutine") = false) (hb : fn.body = some c) (hr : fn.results = rs.toArray) (ha : Nat.ble args.size N = true)
    (h : ∀ w, pre w → W P N w c (Rt P N rs fun v _ => v = r) (fr0 args.toList) []) : Fn P f args pre r :=
  ⟨.mk' hf hn hb, fun w hw => (calls_of_W hf hN hb hr ha (h w hw)).mono fun e w' ⟨v, m, he, hm, hv⟩ => ⟨by rw [he, hv], hm.below⟩⟩
end

theorem Rt.b1 {P : Program} {N : Nat} {u : Tmp} {b b' : Bool} {t : Fr} {m : List Itm} (hv : t u = .bool b) (h : b = b') : Rt P N [.tmp u] (fun v _ => v = .bool b') .ret t m := by
  subst h
  exact Rt.intro_r (.tmp hv .nil) rfl
theorem Rt.i1 {P : Program} {N : Nat} {u : Tmp} {k : IntKind} {b b' : Int} {t : Fr} {m : List Itm} (hv : t u = .int k b) (h : b = b') : Rt P N [.tmp u] (fun v _ => v = .int k b') .ret t m := by
  subst h
  exact Rt.intro_r (.tmp hv .nil) rfl
attribute [irreducible] Rt

/-! ### Regions whose order is open -/
def dirOn (ops : Array Oper) (i j : Nat) : Bool := match ops[i]? with
  | some o => o.after.toList.any fun e => Region.binds .any e && Nat.beq e.on j
  | none => false
def dstIs (ops : Array Oper) (j s : Nat) : Bool := match ops[j]? with
  | some p => (match p.dst with | some d => Nat.beq d s | none => false)
  | none => false
def slotsOf (l : List Operand) : List Tmp := l.filterMap fun | .tmp t => some t | _ => none
/-- Every edge goes back; each slot is written once; what an operation reads is written by one that it waits for, or by none. -/
def drawOk1 (ops : Array Oper) (i : Nat) (o : Oper) : Bool :=
  o.after.toList.all (fun e => !Region.binds .any e || Nat.blt e.on i) &&
  ((match o.dst with
   | some d => (List.range ops.size).all fun j => Nat.beq i j || !dstIs ops j d
   | none => false) &&
  ((slotsOf o.op.operands.toList).all (fun s => (List.range ops.size).all fun j => !dstIs ops j s || dirOn ops i j) &&
  (match o.guard with
   | some (g, _) => dirOn ops i g
   | none => true)))
def drawOk (ops : Array Oper) (n : Nat) : Bool :=
  (List.range n).all fun i => match ops[i]? with
    | some o => drawOk1 ops i o
    | none => false
/-- From the n-th on each waits for the one before it, the n-th for all. -/
def tailOk (ops : Array Oper) (n : Nat) : Bool :=
  (Nat.ble ops.size n || (List.range n).all fun i => (List.range (n + 1)).any fun j => Nat.blt i j && Nat.blt j ops.size && dirOn ops j i) &&
  ((List.range ops.size).all fun k => match ops[k]? with
    | some o => o.after.toList.all (fun e => !Region.binds .any e || Nat.blt e.on k) && (!Nat.blt n k || dirOn ops k (k - 1))
    | none => false)
/-- Does the guard let it run, by the frame t? -/
def wants (ops : Array Oper) (t : Fr) (o : Oper) : Option Bool := match o.guard with
  | none => some true
  | some (g, u) => match ops[g]? with
    | some p => (match p.dst with
      | some d => (match t d with
        | .bool b => some (b == u)
        | .tuple _ => some false
        | _ => none)
      | none => none)
    | none => none
inductive Sq (P : Program) (N : Nat) (w0 : World) (m : List Itm) (ops : Array Oper) (K : Fr → Prop) : List Oper → Fr → Prop where
  | nil {t : Fr} (h : K t) : Sq P N w0 m ops K [] t
  | run {o : Oper} {d : Nat} {v : Value} {l : List Oper} {t : Fr} (hd : o.dst = some d) (hN : Nat.ble (d + 1) N = true) (hw : wants ops t o = some true) (h : Qt P w0 t m o.op v) (k : Sq P N w0 m ops K l (upd t d v)) : Sq P N w0 m ops K (o :: l) t
  | off {o : Oper} {d : Nat} {l : List Oper} {t : Fr} (hd : o.dst = some d) (hN : Nat.ble (d + 1) N = true) (hw : wants ops t o = some false) (k : Sq P N w0 m ops K l (upd t d undef)) : Sq P N w0 m ops K (o :: l) t
section
variable {P : Program} {N n : Nat} {w0 : World} {Q : Pst} {ops : Array Oper} {m : List Itm} {K : Fr → Prop}
theorem drawOk_at (h : drawOk ops n = true) {i : Nat} {o : Oper} (ho : ops[i]? = some o) (hi : i < n) : drawOk1 ops i o = true := by
  have := List.all_eq_true.1 h i (List.mem_range.2 hi)
  rw [ho] at this
  exact this
theorem beq_nat {a b : Nat} : Nat.beq a b = true ↔ a = b := ⟨Nat.eq_of_beq_eq_true, fun h => by rw [h]; exact Nat.beq_refl b⟩
theorem drawOk_back (h : drawOk ops n = true) {i : Nat} {o : Oper} (ho : ops[i]? = some o) (hi : i < n) {e : Edge} (he : e ∈ o.after) (hb : Region.binds .any e = true) : e.on < i := by
  have h1 := drawOk_at h ho hi
  simp only [drawOk1, Bool.and_eq_true] at h1
  have := List.all_eq_true.1 h1.1 e (by simpa using he)
  rw [hb] at this
  have h2 : Nat.blt e.on i = true := by simpa only [Bool.not_true, Bool.false_or] using this
  exact Nat.le_of_ble_eq_true h2
theorem drawOk_dst (h : drawOk ops n = true) {i : Nat} {o : Oper} (ho : ops[i]? = some o) (hi : i < n) : ∃ d, o.dst = some d ∧ ∀ j p, ops[j]? = some p → p.dst = some d → j = i := by
  have h1 := drawOk_at h ho hi
  simp only [drawOk1, Bool.and_eq_true] at h1
  have h2 := h1.2.1
  cases hd : o.dst with
  | none => rw [hd] at h2; cases h2
  | some d =>
    rw [hd] at h2
    refine ⟨d, rfl, fun j p hj hp => ?_⟩
    have h3 := List.all_eq_true.1 h2 j (List.mem_range.2 (Array.getElem?_eq_some_iff.1 hj).1)
    have h4 : dstIs ops j d = true := by simp only [dstIs, hj, hp]; exact Nat.beq_refl d
    rw [h4] at h3
    simp only [Bool.not_true, Bool.or_false] at h3
    exact (beq_nat.1 h3).symm
theorem dirOn_edge {i j : Nat} {o : Oper} (ho : ops[i]? = some o) (h : dirOn ops i j = true) : ∃ e ∈ o.after, Region.binds .any e = true ∧ e.on = j := by
  simp only [dirOn, ho] at h
  obtain ⟨e, he, h2⟩ := List.any_eq_true.1 h
  rw [Bool.and_eq_true] at h2
  exact ⟨e, by simpa using he, h2.1, beq_nat.1 h2.2⟩
theorem drawOk_read (h : drawOk ops n = true) {i : Nat} {o : Oper} (ho : ops[i]? = some o) (hi : i < n) {s : Nat} (hs : Operand.tmp s ∈ o.op.operands) {j : Nat} {p : Oper} (hj : ops[j]? = some p) (hp : p.dst = some s) : dirOn ops i j = true := by
  have h1 := drawOk_at h ho hi
  simp only [drawOk1, Bool.and_eq_true] at h1
  have h2 := List.all_eq_true.1 h1.2.2.1 s (by
    simp only [slotsOf, List.mem_filterMap]
    exact ⟨.tmp s, by simpa using hs, rfl⟩)
  have h3 := List.all_eq_true.1 h2 j (List.mem_range.2 (Array.getElem?_eq_some_iff.1 hj).1)
  have h4 : dstIs ops j s = true := by simp only [dstIs, hj, hp]; exact Nat.beq_refl s
  rw [h4] at h3
  simpa using h3
theorem drawOk_guard (h : drawOk ops n = true) {i : Nat} {o : Oper} (ho : ops[i]? = some o) (hi : i < n) {g : Nat} {u : Bool} (hg : o.guard = some (g, u)) : dirOn ops i g = true := by
  have h1 := drawOk_at h ho hi
  simp only [drawOk1, Bool.and_eq_true, hg] at h1
  exact h1.2.2.2
theorem Qt.congr {t t' : Fr} {op : Op} {v : Value} (h : Qt P w0 t m op v) (he : ∀ x ∈ op.operands, ev t x = ev t' x) : Qt P w0 t' m op v :=
  fun a o w K Q ho hx hm hk => h a o w K Q ho (fun x hxm => (hx x hxm).trans (he x hxm).symm) hm hk
theorem wants_congr {t t' : Fr} {o : Oper} {b : Bool} (h : wants ops t o = some b) (he : ∀ g u p d, o.guard = some (g, u) → ops[g]? = some p → p.dst = some d → t d = t' d) : wants ops t' o = some b := by
  unfold wants at h ⊢
  cases hg : o.guard with
  | none => rw [hg] at h; exact h
  | some gu =>
    obtain ⟨g, u⟩ := gu
    rw [hg] at h
    simp only at h ⊢
    cases hp : ops[g]? with
    | none => rw [hp] at h; cases h
    | some p =>
      rw [hp] at h
      simp only at h ⊢
      cases hd : p.dst with
      | none => rw [hd] at h; cases h
      | some d =>
        rw [hd] at h
        simp only at h ⊢
        rw [← he g u p d hg hp hd]
        exact h

/-- What the operations come to, each over the last frame. -/
theorem Sq.fin (hok : drawOk ops n = true) : ∀ (l : List Oper) (b : Nat) (t : Fr), (ops.toList.take n).drop b = l → Sq P N w0 m ops K l t →
    ∃ tF, K tF ∧ (∀ s, (∀ i o, b ≤ i → i < n → ops[i]? = some o → o.dst ≠ some s) → tF s = t s) ∧
      ∀ i o d, b ≤ i → i < n → ops[i]? = some o → o.dst = some d → d < N ∧ ((wants ops tF o = some true ∧ Qt P w0 tF m o.op (tF d)) ∨ (wants ops tF o = some false ∧ tF d = undef))
  | [], b, t, hl, .nil hK => by
    refine ⟨t, hK, fun _ _ => rfl, fun i o d hn hin hi _ => ?_⟩
    have := List.drop_eq_nil_iff.1 hl
    have := (Array.getElem?_eq_some_iff.1 hi).1
    simp at *
    omega
  | o :: l, b, t, hl, hs => by
    have h0 : ((ops.toList.take n).drop b)[0]? = some o := by rw [hl]; rfl
    rw [List.getElem?_drop, Nat.add_zero, List.getElem?_take] at h0
    have hbn : b < n := by
      by_cases h : b < n
      · exact h
      · rw [if_neg h] at h0; cases h0
    rw [if_pos hbn] at h0
    have hon : ops[b]? = some o := by simpa using h0
    have hl' : (ops.toList.take n).drop (b + 1) = l := by
      rw [← List.drop_drop, hl]
      rfl
    obtain ⟨d, hd, hun⟩ := drawOk_dst hok hon hbn
    have main : ∀ v, Sq P N w0 m ops K l (upd t d v) → d < N → ((wants ops t o = some true ∧ Qt P w0 t m o.op v) ∨ (wants ops t o = some false ∧ v = undef)) → ∃ tF, K tF ∧ (∀ s, (∀ i o, b ≤ i → i < n → ops[i]? = some o → o.dst ≠ some s) → tF s = t s) ∧
      ∀ i o d, b ≤ i → i < n → ops[i]? = some o → o.dst = some d → d < N ∧ ((wants ops tF o = some true ∧ Qt P w0 tF m o.op (tF d)) ∨ (wants ops tF o = some false ∧ tF d = undef)) := by
      intro v hk hdN hv
      obtain ⟨tF, h1, h2, h3⟩ := Sq.fin hok l (b + 1) (upd t d v) hl' hk
      have hself : tF d = v := by
        rw [h2 d (fun i p hi _ hp hpd => by have := hun i p hp hpd; omega), upd_self]
      have hback : ∀ s, (∀ i p, b ≤ i → i < n → ops[i]? = some p → p.dst ≠ some s) → tF s = t s := by
        intro s hs
        have hsd : s ≠ d := fun e => hs b o (Nat.le_refl _) hbn hon (by rw [e]; exact hd)
        rw [h2 s (fun i p hi => hs i p (by omega)), upd_ne _ _ hsd]
      refine ⟨tF, h1, hback, fun i p e hi hin hp he => ?_⟩
      by_cases hib : i = b
      · subst hib
        rw [hon] at hp
        cases hp
        rw [hd] at he
        cases he
        refine ⟨hdN, ?_⟩
        rw [hself]
        have hw : ∀ u, wants ops t o = some u → wants ops tF o = some u := fun u hb => wants_congr hb (by
          intro g u q e hg hq he
          refine (hback e ?_).symm
          intro j r hj hjn hr hre
          obtain ⟨ed, hed, heb, hon2⟩ := dirOn_edge hon (drawOk_guard hok hon hbn hg)
          have hlt := drawOk_back hok hon hbn hed heb
          obtain ⟨e', he', hun'⟩ := drawOk_dst hok hq (by omega)
          rw [he] at he'
          cases he'
          have := hun' j r hr hre
          omega)
        have hq : ∀ v, Qt P w0 t m o.op v → Qt P w0 tF m o.op v := fun v hv => hv.congr (by
          intro x hx
          cases x with
          | tmp s =>
            refine (hback s ?_).symm
            intro j r hj hjn hr hre
            obtain ⟨ed, hed, heb, hon2⟩ := dirOn_edge hon (drawOk_read hok hon hbn hx hr hre)
            have hlt := drawOk_back hok hon hbn hed heb
            omega
          | _ => rfl)
        rcases hv with ⟨a, b⟩ | ⟨a, b⟩
        · exact .inl ⟨hw _ a, hq _ b⟩
        · exact .inr ⟨hw _ a, b⟩
      · exact h3 i p e (by omega) hin hp he
    cases hs with
    | run hd' hN hw h k =>
      rw [hd] at hd'
      cases hd'
      exact main _ k (Nat.le_of_ble_eq_true hN) (.inl ⟨hw, h⟩)
    | off hd' hN hw k =>
      rw [hd] at hd'
      cases hd'
      exact main _ k (Nat.le_of_ble_eq_true hN) (.inr ⟨hw, rfl⟩)

def cnt (l : List Bool) : Nat := (l.filter (!·)).length
theorem cnt_set : ∀ (l : List Bool) (i : Nat), l[i]? = some false → cnt (l.set i true) + 1 = cnt l
  | [], i, h => by simp at h
  | b :: l, 0, h => by
    simp at h
    subst h
    simp [cnt]
  | b :: l, i + 1, h => by
    have ih := cnt_set l i (by simpa using h)
    cases b <;> simp [cnt] at ih ⊢ <;> omega
theorem wanted_of {t : Fr} {a : Act} {o : Oper} {b : Bool} (h : wants ops t o = some b) (he : ∀ g u p d, o.guard = some (g, u) → ops[g]? = some p → p.dst = some d → a.tmps.getD d undef = t d) : Region.wanted o (yielded ops a.tmps) = b := by
  unfold wants at h
  cases hg : o.guard with
  | none =>
    rw [hg] at h
    simp only [Option.some.injEq] at h
    subst h
    simp [Region.wanted, hg]
  | some gu =>
    obtain ⟨g, u⟩ := gu
    rw [hg] at h
    simp only at h
    cases hp : ops[g]? with
    | none => rw [hp] at h; cases h
    | some p =>
      rw [hp] at h
      simp only at h
      cases hd : p.dst with
      | none => rw [hd] at h; cases h
      | some d =>
        rw [hd] at h
        simp only at h
        have e := he g u p d hg hp hd
        cases ht : t d with
        | bool c =>
          rw [ht] at h e
          simp only [Option.some.injEq] at h
          subst h
          have e2 : a.tmps[d]? = some (.bool c) := by
            cases hx : a.tmps[d]? with
            | none => simp [hx, undef] at e
            | some y => simp [hx] at e; rw [e]
          have e3 : yielded ops a.tmps g = some c := by simp [yielded, hp, hd, e2]
          simp only [Region.wanted, hg, e3]
          cases c <;> cases u <;> rfl
        | tuple c =>
          rw [ht] at h e
          simp only [Option.some.injEq] at h
          subst h
          have e3 : yielded ops a.tmps g = none := by
            cases hx : a.tmps[d]? with
            | none => simp [yielded, hp, hd, hx]
            | some y => simp [hx] at e; simp [yielded, hp, hd, hx, e]
          simp only [Region.wanted, hg, e3]
          rfl
        | _ => rw [ht] at h; cases h

/-- What stands while a region's operations come up: those before n. -/
structure Inv (N n : Nat) (w0 : World) (ops : Array Oper) (m : List Itm) (t tF : Fr) (L : Array Bool) (a : Act) (w : World) : Prop where
  size : L.size = ops.size
  asize : a.tmps.size = N
  defers : a.defers = []
  mem : Mem w0 m w
  low : ∀ i, n ≤ i → L.getD i false = false
  shut : ∀ i o, ops[i]? = some o → L.getD i false = true → ∀ e ∈ o.after, Region.binds .any e = true → L.getD e.on false = true
  done : ∀ i o d, ops[i]? = some o → o.dst = some d → L.getD i false = true → a.tmps.getD d undef = tF d
  rest : ∀ s, (∀ i o, ops[i]? = some o → L.getD i false = true → o.dst ≠ some s) → a.tmps.getD s undef = t s
def DrawFacts (P : Program) (N n : Nat) (w0 : World) (ops : Array Oper) (m : List Itm) (t tF : Fr) : Prop :=
  (∀ s, (∀ (i : Nat) (o : Oper), i < n → ops[i]? = some o → o.dst ≠ some s) → tF s = t s) ∧
  ∀ (i : Nat) (o : Oper) (d : Nat), i < n → ops[i]? = some o → o.dst = some d → d < N ∧ ((wants ops tF o = some true ∧ Qt P w0 tF m o.op (tF d)) ∨ (wants ops tF o = some false ∧ tF d = undef))
theorem getD_set {L : Array Bool} {i j : Nat} (hi : i < L.size) : (L.setIfInBounds i true).getD j false = (if j = i then true else L.getD j false) := by
  by_cases h : j = i
  · subst h; simp [Array.getElem?_setIfInBounds, hi]
  · simp [Array.getElem?_setIfInBounds_ne (Ne.symm h), h]
theorem Inv.lt {t tF : Fr} {L : Array Bool} {a : Act} {w : World} (h : Inv N n w0 ops m t tF L a w) {i : Nat} (hi : L.getD i false = true) : i < n := by
  by_cases hlt : i < n
  · exact hlt
  · rw [h.low i (by omega)] at hi; cases hi
theorem Inv.put {t tF : Fr} {L : Array Bool} {a : Act} {w w' : World} (h : Inv N n w0 ops m t tF L a w) {i : Nat} {o : Oper} {d : Nat} (ho : ops[i]? = some o) (hin : i < n) (hd : o.dst = some d) (hdN : d < N)
    (hr : ∀ e ∈ o.after, Region.binds .any e = true → L.getD e.on false = true) (hm : Mem w0 m w') : Inv N n w0 ops m t tF (L.setIfInBounds i true) (a.put o.dst (tF d)) w' := by
  have hi : i < L.size := by rw [h.size]; exact (Array.getElem?_eq_some_iff.1 ho).1
  have hget : ∀ s, (a.put o.dst (tF d)).tmps.getD s undef = if s = d then tF d else a.tmps.getD s undef := by
    intro s
    rw [hd]
    by_cases e : s = d
    · subst e; simp [Act.put, h.asize, hdN]
    · have : (a.tmps.setIfInBounds d (tF d))[s]? = a.tmps[s]? := Array.getElem?_setIfInBounds_ne (Ne.symm e)
      simp [Act.put, this, e]
  have hmono : ∀ j, L.getD j false = true → (L.setIfInBounds i true).getD j false = true := fun j hj => by
    rw [getD_set hi]
    split
    · rfl
    · exact hj
  refine ⟨by simp [h.size], ?_, ?_, hm, ?_, ?_, ?_, ?_⟩
  · rw [hd]; simp [Act.put, h.asize]
  · rw [hd]; exact h.defers
  · intro j hj
    rw [getD_set hi, if_neg (by omega)]
    exact h.low j hj
  · intro j p hp hj e he hb
    rw [getD_set hi] at hj
    by_cases hji : j = i
    · subst hji
      rw [ho] at hp
      cases hp
      exact hmono _ (hr e he hb)
    · rw [if_neg hji] at hj
      exact hmono _ (h.shut j p hp hj e he hb)
  · intro j p e hp he hj
    rw [hget]
    by_cases hed : e = d
    · rw [if_pos hed, hed]
    · rw [if_neg hed]
      rw [getD_set hi] at hj
      by_cases hji : j = i
      · subst hji
        rw [ho] at hp
        cases hp
        rw [hd] at he
        cases he
        exact absurd rfl hed
      · rw [if_neg hji] at hj
        exact h.done j p e hp he hj
  · intro s hs
    have hsd : s ≠ d := fun e => hs i o ho (by rw [getD_set hi, if_pos rfl]) (by rw [e]; exact hd)
    rw [hget, if_neg hsd]
    exact h.rest s fun j p hp hj => hs j p hp (hmono j hj)
theorem Inv.reads {t tF : Fr} {L : Array Bool} {a : Act} {w : World} (hF : DrawFacts P N n w0 ops m t tF) (h : Inv N n w0 ops m t tF L a w) {i : Nat} {o : Oper} (ho : ops[i]? = some o)
    (hr : ∀ e ∈ o.after, Region.binds .any e = true → L.getD e.on false = true) {s : Nat} (hs : ∀ j p, ops[j]? = some p → p.dst = some s → dirOn ops i j = true) : a.tmps.getD s undef = tF s := by
  by_cases hx : ∃ (j : Nat) (p : Oper), ops[j]? = some p ∧ p.dst = some s
  · obtain ⟨j, p, hj, hp⟩ := hx
    obtain ⟨e, he, hb, hon⟩ := dirOn_edge ho (hs j p hj hp)
    have := hr e he hb
    rw [hon] at this
    exact h.done j p s hj hp this
  · have hno : ∀ (j : Nat) (p : Oper), ops[j]? = some p → p.dst ≠ some s := fun j p hj hp => hx ⟨j, p, hj, hp⟩
    rw [h.rest s fun j p hj _ => hno j p hj, hF.1 s fun j p _ => hno j p]
theorem Inv.fits {t tF : Fr} {L : Array Bool} {a : Act} {w : World} (hF : DrawFacts P N n w0 ops m t tF) (h : Inv N n w0 ops m t tF L a w) (hall : ∀ i, i < n → L.getD i false = true) : Fits N a tF := by
  refine ⟨h.asize, fun s => ?_, h.defers⟩
  by_cases hx : ∃ (j : Nat) (p : Oper), j < n ∧ ops[j]? = some p ∧ p.dst = some s
  · obtain ⟨j, p, hjn, hj, hp⟩ := hx
    exact h.done j p s hj hp (hall j hjn)
  · have hno : ∀ (j : Nat) (p : Oper), j < n → ops[j]? = some p → p.dst ≠ some s := fun j p hjn hj hp => hx ⟨j, p, hjn, hj, hp⟩
    rw [h.rest s fun j p hj hl => hno j p (h.lt hl) hj, hF.1 s hno]
theorem ready_of {L : Array Bool} {i : Nat} {o : Oper} (hs : L.size = ops.size) (ho : ops[i]? = some o) (hL : L.getD i false = false) (he : ∀ e ∈ o.after, Region.binds .any e = true → L.getD e.on false = true) : i ∈ Region.ready .any ops L := by
  have hlt : i < L.size := by rw [hs]; exact (Array.getElem?_eq_some_iff.1 ho).1
  refine mem_ready.2 ⟨?_, o, ho, he⟩
  rw [Array.getD_eq_getD_getElem?, Array.getElem?_eq_getElem hlt] at hL ⊢
  exact hL
theorem ready_off {L : Array Bool} {i : Nat} (h : i ∈ Region.ready .any ops L) : L.getD i false = false := by
  have h0 := (mem_ready.1 h).1
  rw [Array.getD_eq_getD_getElem?] at h0 ⊢
  cases hx : L[i]? with
  | none => rfl
  | some b => rw [hx] at h0; simpa using h0
/-- While one of the first n isn't listed, one of them is ready. -/
theorem ready_some {L : Array Bool} (hok : drawOk ops n = true) (hs : L.size = ops.size) (hno : ∀ i, i < n → i ∉ Region.ready .any ops L) : ∀ k i, i ≤ k → i < n → L.getD i false = true := by
  intro k
  induction k with
  | zero =>
    intro i hi hlt
    have hi0 : i = 0 := by omega
    subst hi0
    cases hL : L.getD 0 false with
    | true => rfl
    | false =>
      exfalso
      cases ho : ops[0]? with
      | none =>
        have := List.all_eq_true.1 hok 0 (List.mem_range.2 hlt)
        rw [ho] at this
        cases this
      | some o => exact hno 0 hlt (ready_of hs ho hL fun e he hb => by have := drawOk_back hok ho hlt he hb; omega)
  | succ k ih =>
    intro i hi hlt
    cases hL : L.getD i false with
    | true => rfl
    | false =>
      exfalso
      cases ho : ops[i]? with
      | none =>
        have := List.all_eq_true.1 hok i (List.mem_range.2 hlt)
        rw [ho] at this
        cases this
      | some o => exact hno i hlt (ready_of hs ho hL fun e he hb => by
          have := drawOk_back hok ho hlt he hb
          exact ih e.on (by omega) (by omega))
theorem tailOk_some (h : tailOk ops n = true) (hn : n < ops.size) {i : Nat} (hi : i < n) : ∃ j, i < j ∧ j ≤ n ∧ j < ops.size ∧ dirOn ops j i = true := by
  simp only [tailOk, Bool.and_eq_true, Bool.or_eq_true] at h
  have h1 := h.1.resolve_left (fun e => by have := Nat.le_of_ble_eq_true e; omega)
  obtain ⟨j, hj, h2⟩ := List.any_eq_true.1 (List.all_eq_true.1 h1 i (List.mem_range.2 hi))
  simp only [Bool.and_eq_true] at h2
  have h3 := Nat.le_of_ble_eq_true h2.1.1
  have h4 := Nat.le_of_ble_eq_true h2.1.2
  have h5 := List.mem_range.1 hj
  exact ⟨j, by omega, by omega, by omega, h2.2⟩
theorem tailOk_back (h : tailOk ops n = true) {k : Nat} {o : Oper} (ho : ops[k]? = some o) : (∀ e ∈ o.after, Region.binds .any e = true → e.on < k) ∧ (n < k → dirOn ops k (k - 1) = true) := by
  simp only [tailOk, Bool.and_eq_true] at h
  have h2 := List.all_eq_true.1 h.2 k (List.mem_range.2 (Array.getElem?_eq_some_iff.1 ho).1)
  rw [ho] at h2
  simp only [Bool.and_eq_true] at h2
  refine ⟨fun e he hb => ?_, fun hk => ?_⟩
  · have h3 := List.all_eq_true.1 h2.1 e (by simpa using he)
    rw [hb] at h3
    have h4 : Nat.blt e.on k = true := by simpa only [Bool.not_true, Bool.false_or] using h3
    exact Nat.le_of_ble_eq_true h4
  · have hb : Nat.blt n k = true := Nat.ble_eq_true_of_le hk
    rw [hb] at h2
    simpa using h2.2
/-- All before n are listed when one from n on is ready. -/
theorem tail_all {t tF : Fr} {L : Array Bool} {a : Act} {w : World} (ht : tailOk ops n = true) (h : Inv N n w0 ops m t tF L a w) {k : Nat} (hk : n ≤ k) (hr : k ∈ Region.ready .any ops L) : k = n ∧ ∀ i, i < n → L.getD i false = true := by
  obtain ⟨h0, o, ho, hre⟩ := mem_ready.1 hr
  have hkn : k = n := by
    by_cases e : k = n
    · exact e
    · exfalso
      obtain ⟨ed, hed, hb, hon⟩ := dirOn_edge ho ((tailOk_back ht ho).2 (by omega))
      have := h.lt (hre ed hed hb)
      omega
  subst hkn
  refine ⟨rfl, ?_⟩
  have : ∀ d i, i < k → k - i ≤ d → L.getD i false = true := by
    intro d
    induction d with
    | zero => intro i h1 h2; omega
    | succ d ih =>
      intro i h1 h2
      obtain ⟨j, hij, hjn, hjs, hdir⟩ := tailOk_some ht (Array.getElem?_eq_some_iff.1 ho).1 h1
      have hoj : ops[j]? = some ops[j] := Array.getElem?_eq_getElem hjs
      obtain ⟨ed, hed, hb, hon⟩ := dirOn_edge hoj hdir
      by_cases hjk : j = k
      · subst hjk
        rw [ho] at hoj
        cases hoj
        have := hre ed hed hb
        rw [hon] at this
        exact this
      · have := h.shut j _ hoj (ih j (by omega) (by omega)) ed hed hb
        rw [hon] at this
        exact this
  exact fun i hi => this (k - i) i hi (Nat.le_refl _)
/-- The tail, in its order. -/
theorem tail_run (ht : tailOk ops n = true) {Q' : Exit → Act → World → Prop} : ∀ (l : List Oper) (k fuel : Nat) (L : Array Bool) (a : Act) (w : World), n ≤ k → ops.toList.drop k = l → L.size = ops.size → (∀ i, i < k → L.getD i false = true) → (∀ i, k ≤ i → L.getD i false = false) →
    l.length ≤ fuel → wpList P ops Q' l a w → wpAny P .any ops Q' fuel L a w
  | [], k, fuel, L, a, w, hk, hl, hs, h1, h2, hf, hw => by
    have hr : Region.ready .any ops L = [] := by
      cases hr : Region.ready .any ops L with
      | nil => rfl
      | cons i r =>
        exfalso
        have hi : i ∈ Region.ready .any ops L := by rw [hr]; exact .head _
        obtain ⟨h0, o, ho, _⟩ := mem_ready.1 hi
        have hlt := (Array.getElem?_eq_some_iff.1 ho).1
        have : ops.toList.length ≤ k := List.drop_eq_nil_iff.1 hl
        have h3 := ready_off hi
        rw [h1 i (by simp at this; omega)] at h3
        cases h3
    exact wpAny_done hr hw fuel
  | o :: l, k, 0, L, a, w, hk, hl, hs, h1, h2, hf, hw => by simp at hf
  | o :: l, k, fuel + 1, L, a, w, hk, hl, hs, h1, h2, hf, hw => by
    have h0 : (ops.toList.drop k)[0]? = some o := by rw [hl]; rfl
    rw [List.getElem?_drop, Nat.add_zero] at h0
    have hon : ops[k]? = some o := by simpa using h0
    have hl' : ops.toList.drop (k + 1) = l := by rw [← List.drop_drop, hl]; rfl
    have hks : k < L.size := by rw [hs]; exact (Array.getElem?_eq_some_iff.1 hon).1
    have hkr : k ∈ Region.ready .any ops L := ready_of hs hon (h2 k (Nat.le_refl _)) fun e he hb => h1 _ ((tailOk_back ht hon).1 e he hb)
    refine ⟨fun hr => (by rw [hr] at hkr; cases hkr), fun i hi => ?_⟩
    have hik : i = k := by
      by_cases e : i = k
      · exact e
      · exfalso
        obtain ⟨_, p, hp, hre⟩ := mem_ready.1 hi
        have hoff := ready_off hi
        have hki : k < i := by
          by_cases hlt : i < k
          · rw [h1 i hlt] at hoff; cases hoff
          · omega
        obtain ⟨ed, hed, hb, hon2⟩ := dirOn_edge hp ((tailOk_back ht hp).2 (by omega))
        have := hre ed hed hb
        rw [hon2, h2 (i - 1) (by omega)] at this
        cases this
    subst hik
    have ih : ∀ a w, wpList P ops Q' l a w → wpAny P .any ops Q' fuel (L.setIfInBounds i true) a w := fun a w h =>
      tail_run ht l (i + 1) fuel _ a w (by omega) hl' (by simp [hs]) (fun j hj => by
        rw [getD_set hks]
        split
        · rfl
        · exact h1 j (by omega)) (fun j hj => by
        rw [getD_set hks, if_neg (by omega)]
        exact h2 j (by omega)) (by simpa using hf) h
    unfold wpOp
    rw [hon]
    simp only
    unfold wpList at hw
    split
    · rename_i hwant
      rw [if_pos hwant] at hw
      exact hw.imp (Oper.wp_mono ih) id
    · rename_i hwant
      rw [if_neg hwant] at hw
      exact ih _ _ hw
theorem cnt_zero : ∀ {l : List Bool}, cnt l = 0 → ∀ i, i < l.length → l[i]? = some true
  | [], _, i, hi => by simp at hi
  | b :: l, h, 0, _ => by cases b <;> simp [cnt] at h ⊢
  | b :: l, h, i + 1, hi => by
    have : cnt l = 0 := by cases b <;> simp [cnt] at h ⊢ <;> exact h
    simpa using cnt_zero this i (by simpa using hi)
theorem cnt_from : ∀ (l : List Bool) (n : Nat), (∀ i, n ≤ i → l.getD i false = false) → (∀ i, i < n → l.getD i false = true) → l.length ≤ n + cnt l
  | [], n, _, _ => by simp
  | b :: l, 0, h, h' => by
    have hb : b = false := by simpa using h 0 (Nat.le_refl _)
    have ih := cnt_from l 0 (fun i hi => by simpa using h (i + 1) (by omega)) (fun i hi => by omega)
    subst hb
    simp [cnt] at ih ⊢
    omega
  | b :: l, n + 1, h, h' => by
    have hb : b = true := by simpa using h' 0 (by omega)
    have ih := cnt_from l n (fun i hi => by simpa using h (i + 1) (by omega)) (fun i hi => by simpa using h' (i + 1) (by omega))
    subst hb
    simp [cnt] at ih ⊢
    omega
theorem Inv.all {t tF : Fr} (hok : drawOk ops n = true) (ht : tailOk ops n = true) (hns : n ≤ ops.size) (hF : DrawFacts P N n w0 ops m t tF) (hQ : Wl P N w0 ops Q (ops.toList.drop n) tF m) : ∀ (f : Nat) (L : Array Bool) (a : Act) (w : World), Inv N n w0 ops m t tF L a w → cnt L.toList ≤ f →
    wpAny P .any ops (lift N w0 Q) f L a w := by
  have done : ∀ (f : Nat) (L : Array Bool) (a : Act) (w : World), Inv N n w0 ops m t tF L a w → cnt L.toList ≤ f → (∀ i, i < n → L.getD i false = true) → wpAny P .any ops (lift N w0 Q) f L a w := by
    intro f L a w h hc hall
    refine tail_run ht _ n f L a w (Nat.le_refl _) rfl h.size hall h.low ?_ (hQ a w (h.fits hF hall) h.mem)
    have := cnt_from L.toList n (fun i hi => by have := h.low i hi; simpa [Array.getD_eq_getD_getElem?, List.getD_eq_getElem?_getD] using this) (fun i hi => by have := hall i hi; simpa [Array.getD_eq_getD_getElem?, List.getD_eq_getElem?_getD] using this)
    simp only [Array.length_toList, h.size] at this
    simp
    omega
  intro f
  induction f with
  | zero =>
    intro L a w h hc
    refine done 0 L a w h hc fun i hi => ?_
    have := cnt_zero (Nat.le_zero.1 hc) i (by simp [h.size]; omega)
    rw [Array.getElem?_toList] at this
    simp [this]
  | succ f ih =>
    intro L a w h hc
    by_cases hall : ∀ i, i < n → L.getD i false = true
    · exact done (f + 1) L a w h hc hall
    · refine ⟨fun hr => absurd (fun i hi => ready_some hok h.size (fun j _ hj => by rw [hr] at hj; cases hj) i i (Nat.le_refl _) hi) hall, fun i hi => ?_⟩
      have hin : i < n := by
        by_cases hlt : i < n
        · exact hlt
        · exact absurd (tail_all ht h (by omega) hi).2 hall
      obtain ⟨h0, o, ho, hr⟩ := mem_ready.1 hi
      obtain ⟨d, hd, _⟩ := drawOk_dst hok ho hin
      obtain ⟨hdN, hcase⟩ := hF.2 i o d hin ho hd
      have hlt : i < L.size := by rw [h.size]; exact (Array.getElem?_eq_some_iff.1 ho).1
      have hLi : L.toList[i]? = some false := by
        rw [Array.getElem?_toList, Array.getElem?_eq_getElem hlt]
        rw [Array.getD_eq_getD_getElem?, Array.getElem?_eq_getElem hlt] at h0
        simpa using h0
      have hcnt : cnt (L.setIfInBounds i true).toList ≤ f := by
        have := cnt_set _ _ hLi
        rw [Array.toList_setIfInBounds]
        omega
      have hguard : ∀ g u p e, o.guard = some (g, u) → ops[g]? = some p → p.dst = some e → a.tmps.getD e undef = tF e := fun g u p e hg hp he => by
        refine h.reads hF ho hr fun j q hj hq => ?_
        have hdir := drawOk_guard hok ho hin hg
        obtain ⟨ed, hed, heb, hon⟩ := dirOn_edge ho hdir
        have := drawOk_back hok ho hin hed heb
        obtain ⟨e', he', hun⟩ := drawOk_dst hok hp (by omega)
        rw [he] at he'
        cases he'
        rw [hun j q hj hq]
        exact hdir
      unfold wpOp
      rw [ho]
      simp only
      rcases hcase with ⟨hw, hq⟩ | ⟨hw, hu⟩
      · rw [if_pos (wanted_of hw hguard)]
        refine .inl (hq a o w _ _ rfl (fun x hx => ?_) h.mem fun w' hb => ih _ _ _ (h.put ho hin hd hdN hr (h.mem.step hb)) hcnt)
        cases x with
        | tmp s => exact h.reads hF ho hr fun j p hj hp => drawOk_read hok ho hin hx hj hp
        | _ => rfl
      · rw [if_neg (by rw [wanted_of hw hguard]; simp)]
        have := h.put (w' := w) ho hin hd hdN hr h.mem
        rw [hu] at this
        exact ih _ _ _ this hcnt
/-- A region whose order is open: the first n operations turn nothing that was there; the others come up behind them, one by one. -/
theorem W.draw {id : Nat} {l : List Oper} {t : Fr} (n : Nat) (hmx : P.follows .mixedOrders = true) (hok : drawOk l.toArray n = true) (ht : tailOk l.toArray n = true) (hn : Nat.ble n l.length = true)
    (hs : Sq P N w0 m l.toArray (fun t' => Wl P N w0 l.toArray Q (l.drop n) t' m) (l.take n) t) : W P N w0 (.region id l.toArray true) Q t m := fun a w hf hm => by
  obtain ⟨tF, hQ, h1, h2⟩ := Sq.fin (n := n) hok (l.take n) 0 t (by simp) hs
  refine wp_region_any hmx ?_
  refine Inv.all (n := n) (t := t) hok ht (by simpa using Nat.le_of_ble_eq_true hn) ⟨fun s hs => h1 s fun i o _ hin => hs i o hin, fun i o d hin ho hd => h2 i o d (Nat.zero_le _) hin ho hd⟩ (by simpa using hQ) l.toArray.size _ a _ ⟨by simp, hf.size, hf.defers, hm.drew, ?_, ?_, ?_, ?_⟩ ?_
  · intro i _
    by_cases hlt : i < l.length <;> simp [Array.getElem?_replicate, hlt]
  · intro i o ho hi
    have hlt' : i < l.length := by simpa using (Array.getElem?_eq_some_iff.1 ho).1
    simp [Array.getElem?_replicate, hlt'] at hi
  · intro i o d ho hd hi
    have hlt' : i < l.length := by simpa using (Array.getElem?_eq_some_iff.1 ho).1
    simp [Array.getElem?_replicate, hlt'] at hi
  · intro s _
    exact hf.get s
  · simp only [cnt]
    exact Nat.le_trans (List.length_filter_le _ _) (by simp)
/-- A guarded operation whose guard lets it run, and one whose guard doesn't. -/
theorem Wl.qg {o : Oper} {d : Nat} {v : Value} {l : List Oper} {t : Fr} (hd : o.dst = some d) (hN : Nat.ble (d + 1) N = true) (hw : wants ops t o = some true) (h : Qt P w0 t m o.op v) (k : Wl P N w0 ops Q l (upd t d v) m) : Wl P N w0 ops Q (o :: l) t m := fun a w hf hm =>
  wpList_step fun K hK => by
    rw [if_pos (wanted_of hw fun g u p e _ _ _ => hf.get e)]
    exact h a o w K _ rfl (fun x _ => hf.eval x) hm fun w' hb => hK _ _ (by rw [hd]; exact k _ _ (hf.put (Nat.le_of_ble_eq_true hN) v) (hm.step hb))
theorem Wl.yg {o : Oper} {d : Nat} {v : Value} {l : List Oper} {t : Fr} (hd : o.dst = some d) (hN : Nat.ble (d + 1) N = true) (hw : wants ops t o = some true) (h : Yv P w0 t m o.op v) (k : Wl P N w0 ops Q l (upd t d v) m) : Wl P N w0 ops Q (o :: l) t m := Wl.qg hd hN hw h.qt k
theorem Wl.off {o : Oper} {d : Nat} {l : List Oper} {t : Fr} (hd : o.dst = some d) (hN : Nat.ble (d + 1) N = true) (hw : wants ops t o = some false) (k : Wl P N w0 ops Q l (upd t d undef) m) : Wl P N w0 ops Q (o :: l) t m := fun a w hf hm =>
  wpList_step fun K hK => by
    rw [if_neg (by rw [wanted_of hw fun g u p e _ _ _ => hf.get e]; simp)]
    exact hK _ _ (by rw [hd]; exact k _ _ (hf.put (Nat.le_of_ble_eq_true hN) undef) hm)
end
/-- What several ways have in common is shown once, and the rest behind it once. -/
theorem W.cut {P : Program} {N : Nat} {w0 : World} {Q : Pst} {t0 : Fr} {m : List Itm} {α : Type} {x y : Code} (L : List Nat) (V : α → List (Nat × Value)) (M : α → List Itm) (G : α → Prop)
    (h : W P N w0 x (thn (fun t' m' => ∃ z, Agree L t0 t' ∧ HasL t' (V z) ∧ List.Sublist (M z) m' ∧ G z) Q) t0 m) (k : ∀ z s, G z → W P N w0 y Q (updL (ovr t0 L s) (V z)) (M z)) : W P N w0 (.seq x y) Q t0 m :=
  W.seq fun a w hf hm => wp_mono (h a w hf hm) (by
    rintro e a' w' ⟨t', m', f', mm', q⟩
    cases e with
    | normal =>
      obtain ⟨z, h1, h2, h3, h4⟩ := q
      refine ⟨t', M z, f', mm'.sub h3, ?_⟩
      obtain ⟨s, hs⟩ := reenter h1 h2
      rw [hs]
      exact k z s h4
    | _ => exact ⟨t', m', f', mm', q⟩)
end Go.Proofs.Ytfmamihoaklogaa.T
