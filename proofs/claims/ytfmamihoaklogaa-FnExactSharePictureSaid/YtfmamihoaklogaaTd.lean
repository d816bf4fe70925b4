/- Regions whose order is open, in which one block is made and filled (used by the claims of this seat). -/
import Derived.Test.YtfmamihoaklogaaTe
namespace Go.Proofs.Ytfmamihoaklogaa.T
open Go.RowKit
set_option linter.unusedVariables false
set_option linter.unusedSimpArgs false

def isNew (o : Op) : Bool := match o with | .alloc _ => true | .store _ _ _ => true | _ => false
def mixOk1 (ops : Array Oper) (ia ic da i : Nat) (o : Oper) : Bool :=
  o.after.toList.all (fun e => !Region.binds .any e || Nat.blt e.on i) &&
  ((Nat.beq i ic || (match o.dst with
   | some d => (List.range ops.size).all fun j => Nat.beq i j || !dstIs ops j d
   | none => false)) &&
  ((slotsOf o.op.operands.toList).all (fun s => (List.range ops.size).all fun j => !dstIs ops j s || dirOn ops i j) &&
  ((match o.guard with
   | some (g, _) => dirOn ops i g && (!Nat.beq g ia && !Nat.beq g ic)
   | none => true) &&
  ((Nat.beq i ic || (slotsOf o.op.operands.toList).all (fun s => !Nat.beq s da)) &&
  ((Nat.beq i ia || (Nat.beq i ic || !isNew o.op)) &&
  (!Nat.beq i ic || (match o.dst with | some _ => false | none => true)))))))
def mixOk (ops : Array Oper) (ia ic da : Nat) : Bool :=
  (List.range ops.size).all (fun i => match ops[i]? with
    | some o => mixOk1 ops ia ic da i o
    | none => false) && (dirOn ops ic ia && !Nat.beq ia ic)
inductive SqA (P : Program) (N : Nat) (w0 : World) (m : List Itm) (ops : Array Oper) (K : Fr → Prop) : List Oper → Fr → Prop where
  | nil {t : Fr} (h : K t) : SqA P N w0 m ops K [] t
  | run {o : Oper} {d : Nat} {v : Value} {l : List Oper} {t : Fr} (hd : o.dst = some d) (hN : Nat.ble (d + 1) N = true) (hw : wants ops t o = some true) (h : Qt P w0 t m o.op v) (k : SqA P N w0 m ops K l (upd t d v)) : SqA P N w0 m ops K (o :: l) t
  | off {o : Oper} {d : Nat} {l : List Oper} {t : Fr} (hd : o.dst = some d) (hN : Nat.ble (d + 1) N = true) (hw : wants ops t o = some false) (k : SqA P N w0 m ops K l (upd t d undef)) : SqA P N w0 m ops K (o :: l) t
  | skip {o : Oper} {l : List Oper} {t : Fr} (hq : isNew o.op = true) (k : SqA P N w0 m ops K l t) : SqA P N w0 m ops K (o :: l) t
/-- What a store writes into a block. -/
def Str (P : Program) (w0 : World) (T T' : TypeId) (v : Value) (cs cs' : Array Value) : Prop :=
  ∀ (a : Act) (o : Oper) (x y : Operand) (b : Nat) (m : List Itm) (w : World) (K : Act → World → Prop) (Q : Exit → Act → World → Prop), o.op = .store T' x y → o.dst = none → a.eval x = .pointer (some ⟨b, 0, none⟩) → a.eval y = v →
    Mem w0 (.blk b T cs :: m) w → (∀ w', Mem w0 (.blk b T cs' :: m) w' → K a w') → o.wp P a w K Q
section
variable {P : Program} {N : Nat} {w0 : World} {Q : Pst} {ops : Array Oper} {m : List Itm} {K : Fr → Prop} {ia ic da : Nat} {T T' : TypeId}
theorem Str.agg {cs cs' vs : Array Value} (h1 : vs.toList.all (·.oneCell') = true) (hs : (P.info? T').map (·.size) = some vs.size) (hcs : blit cs 0 vs = cs') (hn : Nat.ble (0 + vs.size) cs.size = true) : Str P w0 T T' (.agg vs) cs cs' := by
  intro a o x y b m w K Q ho hd e1 e2 hm hK
  subst hcs
  have hn := Nat.le_of_ble_eq_true hn
  have hgb := (hm.ok _ (.head _)).2
  cases hq : P.info? T' with
  | none => simp [hq] at hs
  | some i =>
    have hs' : i.size = vs.size := by simpa [hq] using hs
    have hz : (sizeOf T').run P w = .ok vs.size w := by simp [sizeOf, typeInfo, hq, hs']
    have hst : (storeCells ⟨b, 0, none⟩ vs.toList).run P w = .ok () (w.setRow b (blit cs 0 vs)) := by
      have := run_storeCells_at (P := P) b 0 T vs.toList 0 cs w hgb (by simp; omega) (fun v hv => List.all_eq_true.1 h1 v hv)
      rw [this]
      simp [blit]
    have hrun : (execOp a.eval o).run P w = .ok .skip (w.setRow b (blit cs 0 vs)) := by
      obtain ⟨dst, op, ty, pos, aft, g⟩ := o
      simp only at ho
      subst ho
      simp [execOp, e1, e2, Instr.storeAt, Instr.sureAddr, storeVar, Value.cells, hz, hst, Sem.run_bind]
    unfold Oper.wp
    rw [hrun]
    show K (a.put o.dst undef) _
    rw [hd]
    exact hK _ (hm.setRow (.here _))
theorem mixOk_at (h : mixOk ops ia ic da = true) {i : Nat} {o : Oper} (ho : ops[i]? = some o) : mixOk1 ops ia ic da i o = true := by
  simp only [mixOk, Bool.and_eq_true] at h
  have := List.all_eq_true.1 h.1 i (List.mem_range.2 (Array.getElem?_eq_some_iff.1 ho).1)
  rw [ho] at this
  exact this
theorem mixOk_dir (h : mixOk ops ia ic da = true) : dirOn ops ic ia = true ∧ ia ≠ ic := by
  simp only [mixOk, Bool.and_eq_true] at h
  refine ⟨h.2.1, fun e => ?_⟩
  have h2 := h.2.2
  rw [e, Nat.beq_refl] at h2
  cases h2
theorem mixOk_back (h : mixOk ops ia ic da = true) {i : Nat} {o : Oper} (ho : ops[i]? = some o) {e : Edge} (he : e ∈ o.after) (hb : Region.binds .any e = true) : e.on < i := by
  have h1 := mixOk_at h ho
  simp only [mixOk1, Bool.and_eq_true] at h1
  have := List.all_eq_true.1 h1.1 e (by simpa using he)
  rw [hb] at this
  have h2 : Nat.blt e.on i = true := by simpa only [Bool.not_true, Bool.false_or] using this
  exact Nat.le_of_ble_eq_true h2
theorem mixOk_dst (h : mixOk ops ia ic da = true) {i : Nat} {o : Oper} (ho : ops[i]? = some o) (hi : i ≠ ic) : ∃ d, o.dst = some d ∧ ∀ j p, ops[j]? = some p → p.dst = some d → j = i := by
  have h1 := mixOk_at h ho
  simp only [mixOk1, Bool.and_eq_true, Bool.or_eq_true] at h1
  have h2 := h1.2.1.resolve_left (fun e => hi (beq_nat.1 e))
  cases hd : o.dst with
  | none => rw [hd] at h2; cases h2
  | some d =>
    rw [hd] at h2
    refine ⟨d, rfl, fun j p hj hp => ?_⟩
    have h3 := List.all_eq_true.1 h2 j (List.mem_range.2 (Array.getElem?_eq_some_iff.1 hj).1)
    have h4 : dstIs ops j d = true := by simp only [dstIs, hj, hp]; exact Nat.beq_refl d
    rw [h4] at h3
    simp only [Bool.not_true, Bool.or_false] at h3
    exact (beq_nat.1 h3).symm
theorem mixOk_read (h : mixOk ops ia ic da = true) {i : Nat} {o : Oper} (ho : ops[i]? = some o) {s : Nat} (hs : Operand.tmp s ∈ o.op.operands) : (∀ j p, ops[j]? = some p → p.dst = some s → dirOn ops i j = true) ∧ (i ≠ ic → s ≠ da) := by
  have h1 := mixOk_at h ho
  simp only [mixOk1, Bool.and_eq_true] at h1
  have hm : s ∈ slotsOf o.op.operands.toList := by
    simp only [slotsOf, List.mem_filterMap]
    exact ⟨.tmp s, by simpa using hs, rfl⟩
  refine ⟨fun j p hj hp => ?_, fun hi e => ?_⟩
  · have h3 := List.all_eq_true.1 (List.all_eq_true.1 h1.2.2.1 s hm) j (List.mem_range.2 (Array.getElem?_eq_some_iff.1 hj).1)
    have h4 : dstIs ops j s = true := by simp only [dstIs, hj, hp]; exact Nat.beq_refl s
    rw [h4] at h3
    simpa using h3
  · have h2 := h1.2.2.2.2.1
    rw [Bool.or_eq_true] at h2
    have h3 := List.all_eq_true.1 (h2.resolve_left (fun e => hi (beq_nat.1 e))) s hm
    rw [e, Nat.beq_refl] at h3
    cases h3
theorem mixOk_guard (h : mixOk ops ia ic da = true) {i : Nat} {o : Oper} (ho : ops[i]? = some o) {g : Nat} {u : Bool} (hg : o.guard = some (g, u)) : dirOn ops i g = true ∧ g ≠ ia ∧ g ≠ ic := by
  have h1 := mixOk_at h ho
  simp only [mixOk1, Bool.and_eq_true, hg] at h1
  have h2 := h1.2.2.2.1
  refine ⟨h2.1, fun e => ?_, fun e => ?_⟩
  · have h3 := h2.2.1
    rw [e, Nat.beq_refl] at h3
    cases h3
  · have h3 := h2.2.2
    rw [e, Nat.beq_refl] at h3
    cases h3
theorem mixOk_new (h : mixOk ops ia ic da = true) {i : Nat} {o : Oper} (ho : ops[i]? = some o) (h1 : i ≠ ia) (h2 : i ≠ ic) : isNew o.op = false := by
  have h3 := mixOk_at h ho
  simp only [mixOk1, Bool.and_eq_true, Bool.or_eq_true] at h3
  have := (h3.2.2.2.2.2.1.resolve_left (fun e => h1 (beq_nat.1 e))).resolve_left (fun e => h2 (beq_nat.1 e))
  simpa using this
theorem mixOk_none (h : mixOk ops ia ic da = true) {o : Oper} (ho : ops[ic]? = some o) : o.dst = none := by
  have h3 := mixOk_at h ho
  simp only [mixOk1, Bool.and_eq_true] at h3
  have h4 := h3.2.2.2.2.2.2
  rw [Nat.beq_refl] at h4
  cases hd : o.dst with
  | none => rfl
  | some d => rw [hd] at h4; cases h4
theorem new_at {o : Oper} (h : isNew o.op = true) {i : Nat} (hok : mixOk ops ia ic da = true) (ho : ops[i]? = some o) : i = ia ∨ i = ic := by
  by_cases h1 : i = ia
  · exact .inl h1
  · by_cases h2 : i = ic
    · exact .inr h2
    · rw [mixOk_new hok ho h1 h2] at h
      cases h
/-- What the quiet operations come to, each over the last frame. -/
theorem SqA.fin (hok : mixOk ops ia ic da = true) : ∀ (l : List Oper) (b : Nat) (t : Fr), ops.toList.drop b = l → SqA P N w0 m ops K l t →
    ∃ tF, K tF ∧ (∀ s, (∀ i o, b ≤ i → ops[i]? = some o → o.dst ≠ some s) → tF s = t s) ∧
      ∀ i o, b ≤ i → i ≠ ia → i ≠ ic → ops[i]? = some o → ∃ d, o.dst = some d ∧ d < N ∧ ((wants ops tF o = some true ∧ Qt P w0 tF m o.op (tF d)) ∨ (wants ops tF o = some false ∧ tF d = undef))
  | [], b, t, hl, .nil hK => by
    refine ⟨t, hK, fun _ _ => rfl, fun i o hbi _ _ hi => ?_⟩
    have := List.drop_eq_nil_iff.1 hl
    have := (Array.getElem?_eq_some_iff.1 hi).1
    simp at *
    omega
  | o :: l, b, t, hl, hs => by
    have h0 : (ops.toList.drop b)[0]? = some o := by rw [hl]; rfl
    rw [List.getElem?_drop, Nat.add_zero] at h0
    have hon : ops[b]? = some o := by simpa using h0
    have hl' : ops.toList.drop (b + 1) = l := by
      rw [← List.drop_drop, hl]
      rfl
    have main : ∀ d v, o.dst = some d → b ≠ ic → SqA P N w0 m ops K l (upd t d v) → d < N → ((wants ops t o = some true ∧ Qt P w0 t m o.op v) ∨ (wants ops t o = some false ∧ v = undef)) → ∃ tF, K tF ∧ (∀ s, (∀ i o, b ≤ i → ops[i]? = some o → o.dst ≠ some s) → tF s = t s) ∧
      ∀ i o, b ≤ i → i ≠ ia → i ≠ ic → ops[i]? = some o → ∃ d, o.dst = some d ∧ d < N ∧ ((wants ops tF o = some true ∧ Qt P w0 tF m o.op (tF d)) ∨ (wants ops tF o = some false ∧ tF d = undef)) := by
      intro d v hd hbc hk hdN hv
      obtain ⟨d', hd', hun⟩ := mixOk_dst hok hon hbc
      rw [hd] at hd'
      cases hd'
      obtain ⟨tF, h1, h2, h3⟩ := SqA.fin hok l (b + 1) (upd t d v) hl' hk
      have hself : tF d = v := by
        rw [h2 d (fun i p hi hp hpd => by have := hun i p hp hpd; omega), upd_self]
      have hback : ∀ s, (∀ i p, b ≤ i → ops[i]? = some p → p.dst ≠ some s) → tF s = t s := by
        intro s hs
        have hsd : s ≠ d := fun e => hs b o (Nat.le_refl _) hon (by rw [e]; exact hd)
        rw [h2 s (fun i p hi => hs i p (by omega)), upd_ne _ _ hsd]
      refine ⟨tF, h1, hback, fun i p hi hia hic hp => ?_⟩
      by_cases hib : i = b
      · subst hib
        rw [hon] at hp
        cases hp
        refine ⟨d, hd, hdN, ?_⟩
        rw [hself]
        have hw : ∀ u, wants ops t o = some u → wants ops tF o = some u := fun u hb => wants_congr hb (by
          intro g u q e hg hq he
          refine (hback e ?_).symm
          intro j r hj hr hre
          obtain ⟨hdir, _, hgc⟩ := mixOk_guard hok hon hg
          obtain ⟨ed, hed, heb, hon2⟩ := dirOn_edge hon hdir
          have hlt := mixOk_back hok hon hed heb
          obtain ⟨e', he', hun'⟩ := mixOk_dst hok hq hgc
          rw [he] at he'
          cases he'
          have := hun' j r hr hre
          omega)
        have hq : ∀ v, Qt P w0 t m o.op v → Qt P w0 tF m o.op v := fun v hv => hv.congr (by
          intro x hx
          cases x with
          | tmp s =>
            refine (hback s ?_).symm
            intro j r hj hr hre
            obtain ⟨ed, hed, heb, hon2⟩ := dirOn_edge hon ((mixOk_read hok hon hx).1 j r hr hre)
            have hlt := mixOk_back hok hon hed heb
            omega
          | _ => rfl)
        rcases hv with ⟨a, b⟩ | ⟨a, b⟩
        · exact .inl ⟨hw _ a, hq _ b⟩
        · exact .inr ⟨hw _ a, b⟩
      · exact h3 i p (by omega) hia hic hp
    have skp : SqA P N w0 m ops K l t → (b = ia ∨ b = ic) → ∃ tF, K tF ∧ (∀ s, (∀ i o, b ≤ i → ops[i]? = some o → o.dst ≠ some s) → tF s = t s) ∧
      ∀ i o, b ≤ i → i ≠ ia → i ≠ ic → ops[i]? = some o → ∃ d, o.dst = some d ∧ d < N ∧ ((wants ops tF o = some true ∧ Qt P w0 tF m o.op (tF d)) ∨ (wants ops tF o = some false ∧ tF d = undef)) := by
      intro hk hb
      obtain ⟨tF, h1, h2, h3⟩ := SqA.fin hok l (b + 1) t hl' hk
      refine ⟨tF, h1, fun s hs => h2 s fun i p hi => hs i p (by omega), fun i p hi hia hic hp => ?_⟩
      by_cases hib : i = b
      · omega
      · exact h3 i p (by omega) hia hic hp
    have hne : ∀ d, o.dst = some d → b ≠ ic := fun d hd e => by
      rw [mixOk_none hok (e ▸ hon)] at hd
      cases hd
    cases hs with
    | run hd hN hw h k => exact main _ _ hd (hne _ hd) k (Nat.le_of_ble_eq_true hN) (.inl ⟨hw, h⟩)
    | off hd hN hw k => exact main _ _ hd (hne _ hd) k (Nat.le_of_ble_eq_true hN) (.inr ⟨hw, rfl⟩)
    | skip hq k => exact skp k (new_at hq hok hon)
/-- What stands while the operations come up; b: the new block. -/
structure InvA (P : Program) (N : Nat) (w0 : World) (ops : Array Oper) (m : List Itm) (ia ic da : Nat) (T : TypeId) (cs cs' : Array Value) (t tF : Fr) (b : Nat) (L : Array Bool) (a : Act) (w : World) : Prop where
  inv : Inv N ops.size w0 ops m t (upd tF da (.pointer (some ⟨b, 0, none⟩))) L a w
  blk : L.getD ia false = true → Mem w0 (.blk b T (cond (L.getD ic false) cs' cs) :: m) w
theorem Inv.none {t tF : Fr} {L : Array Bool} {a : Act} {w w' : World} (h : Inv N ops.size w0 ops m t tF L a w) {i : Nat} {o : Oper} (ho : ops[i]? = some o) (hd : o.dst = none)
    (hr : ∀ e ∈ o.after, Region.binds .any e = true → L.getD e.on false = true) (hm : Mem w0 m w') : Inv N ops.size w0 ops m t tF (L.setIfInBounds i true) a w' := by
  have hi : i < L.size := by rw [h.size]; exact (Array.getElem?_eq_some_iff.1 ho).1
  have hmono : ∀ j, L.getD j false = true → (L.setIfInBounds i true).getD j false = true := fun j hj => by
    rw [getD_set hi]
    split
    · rfl
    · exact hj
  refine ⟨by simp [h.size], h.asize, h.defers, hm, ?_, ?_, ?_, ?_⟩
  · intro j hj
    rw [getD_set hi, if_neg (by have := h.size; omega)]
    exact h.low j hj
  · intro j p hp hj e he hb
    rw [getD_set hi] at hj
    by_cases hji : j = i
    · subst hji
      rw [ho] at hp
      cases hp
      exact hmono _ (hr e he hb)
    · rw [if_neg hji] at hj
      exact hmono _ (h.shut j p hp hj e he hb)
  · intro j p e hp he hj
    rw [getD_set hi] at hj
    by_cases hji : j = i
    · subst hji
      rw [ho] at hp
      cases hp
      rw [hd] at he
      cases he
    · rw [if_neg hji] at hj
      exact h.done j p e hp he hj
  · intro s hs
    exact h.rest s fun j p hp hj => hs j p hp (hmono j hj)
theorem Inv.swap {t tF tG : Fr} {L : Array Bool} {a : Act} {w : World} (h : Inv N ops.size w0 ops m t tF L a w) (he : ∀ i o d, ops[i]? = some o → o.dst = some d → L.getD i false = true → tF d = tG d) : Inv N ops.size w0 ops m t tG L a w :=
  ⟨h.size, h.asize, h.defers, h.mem, h.low, h.shut, fun i o d ho hd hL => (h.done i o d ho hd hL).trans (he i o d ho hd hL), h.rest⟩
theorem ready_all {L : Array Bool} (hok : mixOk ops ia ic da = true) (hs : L.size = ops.size) (hno : Region.ready .any ops L = []) : ∀ k i, i ≤ k → i < ops.size → L.getD i false = true := by
  intro k
  induction k with
  | zero =>
    intro i hi hlt
    have hi0 : i = 0 := by omega
    subst hi0
    cases hL : L.getD 0 false with
    | true => rfl
    | false =>
      exfalso
      have := ready_of hs (Array.getElem?_eq_getElem hlt) hL fun e he hb => by have := mixOk_back hok (Array.getElem?_eq_getElem hlt) he hb; omega
      rw [hno] at this
      cases this
  | succ k ih =>
    intro i hi hlt
    cases hL : L.getD i false with
    | true => rfl
    | false =>
      exfalso
      have := ready_of hs (Array.getElem?_eq_getElem hlt) hL fun e he hb => by
        have := mixOk_back hok (Array.getElem?_eq_getElem hlt) he hb
        exact ih e.on (by omega) (by omega)
      rw [hno] at this
      cases this
theorem W.mix {id : Nat} {l : List Oper} {t : Fr} {oA oC : Oper} {z : Value} {y : Operand} {cs' : Array Value} (ia ic : Nat) (hmx : P.follows .mixedOrders = true) (hok : mixOk l.toArray ia ic da = true)
    (hA : l[ia]? = some oA) (hA1 : oA.op = .alloc T) (hA2 : oA.dst = some da) (hA3 : oA.guard = none) (hAN : Nat.ble (da + 1) N = true) (hz : ∀ w, (zeroValue T).run P w = .ok z w)
    (hC : l[ic]? = some oC) (hC1 : oC.op = .store T' (.tmp da) y) (hC3 : oC.guard = none)
    (hs : SqA P N w0 m l.toArray (fun tF => ∃ v, ev tF y = v ∧ y ≠ .tmp da ∧ Str P w0 T T' v z.cells cs' ∧ ∀ b, Q .normal (upd tF da (.pointer (some ⟨b, 0, Option.none⟩))) (.blk b T cs' :: m)) l t) : W P N w0 (.region id l.toArray true) Q t m := fun a w hf hm => by
  obtain ⟨tF, ⟨v, hy, hyd, hstr, hQ⟩, hF1, hF2⟩ := SqA.fin hok l 0 t (by simp) hs
  have hA0 : l.toArray[ia]? = some oA := by simpa using hA
  have hC0 : l.toArray[ic]? = some oC := by simpa using hC
  have hC2 : oC.dst = none := mixOk_none hok hC0
  obtain ⟨hdca, hne⟩ := mixOk_dir hok
  have hda : ∀ j p, l.toArray[j]? = some p → p.dst = some da → j = ia := by
    obtain ⟨d, hd, hun⟩ := mixOk_dst hok hA0 hne
    rw [hA2] at hd
    cases hd
    exact hun
  have hF1' : ∀ b s, (∀ (i : Nat) (o : Oper), l.toArray[i]? = some o → o.dst ≠ some s) → upd tF da (.pointer (some ⟨b, 0, Option.none⟩)) s = t s := fun b s hs => by
    rw [upd_ne _ _ (fun e => hs ia oA hA0 (by rw [e]; exact hA2))]
    exact hF1 s fun i o _ => hs i o
  refine wp_region_any hmx ?_
  suffices main : ∀ (f : Nat) (b : Nat) (L : Array Bool) (a : Act) (w : World), InvA P N w0 l.toArray m ia ic da T z.cells cs' t tF b L a w → cnt L.toList ≤ f → wpAny P .any l.toArray (lift N w0 Q) f L a w by
    refine main l.toArray.size 0 _ a _ ⟨⟨by simp, hf.size, hf.defers, hm.drew, ?_, ?_, ?_, ?_⟩, ?_⟩ ?_
    · intro i _
      by_cases hlt : i < l.length <;> simp [Array.getElem?_replicate, hlt]
    · intro i o ho hi
      have hlt' : i < l.length := by simpa using (Array.getElem?_eq_some_iff.1 ho).1
      simp [Array.getElem?_replicate, hlt'] at hi
    · intro i o d ho hd hi
      have hlt' : i < l.length := by simpa using (Array.getElem?_eq_some_iff.1 ho).1
      simp [Array.getElem?_replicate, hlt'] at hi
    · intro s _
      exact hf.get s
    · intro hi
      have hlt' : ia < l.length := by simpa using (Array.getElem?_eq_some_iff.1 hA0).1
      simp [Array.getElem?_replicate, hlt'] at hi
    · simp only [cnt]
      exact Nat.le_trans (List.length_filter_le _ _) (by simp)
  have done : ∀ (f b : Nat) (L : Array Bool) (a : Act) (w : World), InvA P N w0 l.toArray m ia ic da T z.cells cs' t tF b L a w → Region.ready .any l.toArray L = [] → wpAny P .any l.toArray (lift N w0 Q) f L a w := by
    intro f b L a w h hr
    have hall := fun i hi => ready_all hok h.inv.size hr i i (Nat.le_refl _) hi
    have hia := hall ia (Array.getElem?_eq_some_iff.1 hA0).1
    have hic := hall ic (Array.getElem?_eq_some_iff.1 hC0).1
    have hmem := h.blk hia
    rw [hic] at hmem
    refine wpAny_done hr ⟨_, _, ⟨h.inv.asize, fun s => ?_, h.inv.defers⟩, hmem, hQ b⟩ f
    by_cases hx : ∃ (j : Nat) (p : Oper), l.toArray[j]? = some p ∧ p.dst = some s
    · obtain ⟨j, p, hj, hp⟩ := hx
      exact h.inv.done j p s hj hp (hall j (Array.getElem?_eq_some_iff.1 hj).1)
    · have hno : ∀ (j : Nat) (p : Oper), l.toArray[j]? = some p → p.dst ≠ some s := fun j p hj hp => hx ⟨j, p, hj, hp⟩
      rw [h.inv.rest s fun j p hj _ => hno j p hj, hF1' b s hno]
  intro f
  induction f with
  | zero =>
    intro b L a w h hc
    refine done 0 b L a w h ?_
    cases hr : Region.ready .any l.toArray L with
    | nil => rfl
    | cons i r =>
      exfalso
      have hi : i ∈ Region.ready .any l.toArray L := by rw [hr]; exact .head _
      have hoff := ready_off hi
      obtain ⟨_, o, ho, _⟩ := mem_ready.1 hi
      have := cnt_zero (Nat.le_zero.1 hc) i (by have := (Array.getElem?_eq_some_iff.1 ho).1; have := h.inv.size; simp; omega)
      rw [Array.getElem?_toList] at this
      simp [this] at hoff
  | succ f ih =>
    intro b L a w h hc
    by_cases hr : Region.ready .any l.toArray L = []
    · exact done _ b L a w h hr
    · refine ⟨fun hr' => absurd hr' hr, fun i hi => ?_⟩
      obtain ⟨h0, o, ho, hre⟩ := mem_ready.1 hi
      have hoff := ready_off hi
      have hlt : i < L.size := by rw [h.inv.size]; exact (Array.getElem?_eq_some_iff.1 ho).1
      have hLi : L.toList[i]? = some false := by
        rw [Array.getElem?_toList, Array.getElem?_eq_getElem hlt]
        rw [Array.getD_eq_getD_getElem?, Array.getElem?_eq_getElem hlt] at hoff
        simpa using hoff
      have hcnt : cnt (L.setIfInBounds i true).toList ≤ f := by
        have := cnt_set _ _ hLi
        rw [Array.toList_setIfInBounds]
        omega
      have hreads : ∀ s, (∀ j p, l.toArray[j]? = some p → p.dst = some s → dirOn l.toArray i j = true) → a.tmps.getD s undef = upd tF da (.pointer (some ⟨b, 0, Option.none⟩)) s := fun s hs => by
        by_cases hx : ∃ (j : Nat) (p : Oper), l.toArray[j]? = some p ∧ p.dst = some s
        · obtain ⟨j, p, hj, hp⟩ := hx
          obtain ⟨e, he, hb, hon⟩ := dirOn_edge ho (hs j p hj hp)
          have := hre e he hb
          rw [hon] at this
          exact h.inv.done j p s hj hp this
        · have hno : ∀ (j : Nat) (p : Oper), l.toArray[j]? = some p → p.dst ≠ some s := fun j p hj hp => hx ⟨j, p, hj, hp⟩
          rw [h.inv.rest s fun j p hj _ => hno j p hj, hF1' b s hno]
      unfold wpOp
      rw [ho]
      simp only
      by_cases hia : i = ia
      · subst hia
        rw [hA0] at ho
        cases ho
        have hwant : Region.wanted oA (yielded l.toArray a.tmps) = true := by simp [Region.wanted, hA3]
        rw [if_pos hwant]
        have hicF : L.getD ic false = false := by
          cases hq : L.getD ic false with
          | false => rfl
          | true =>
            obtain ⟨e, he, hb, hon⟩ := dirOn_edge hC0 hdca
            have := h.inv.shut ic oC hC0 hq e he hb
            rw [hon, hoff] at this
            cases this
        have hsw := h.inv.swap (tG := upd tF da (.pointer (some ⟨w.heap.size, 0, Option.none⟩))) fun j p d hj hp hL => by
          have hne2 : d ≠ da := fun e => by
            have := hda j p hj (by rw [← e]; exact hp)
            rw [this, hoff] at hL
            cases hL
          rw [upd_ne _ _ hne2, upd_ne _ _ hne2]
        have hrun : (execOp a.eval oA).run P w = .ok (.value (.pointer (some ⟨w.heap.size, 0, Option.none⟩))) (w.alloc (.cells z.cells T)) := by
          obtain ⟨dst, op, ty, pos, aft, g⟩ := oA
          simp only at hA1
          subst hA1
          simp [execOp, Instr.alloc, hz, newVar, newRow, newObj, Sem.run_bind]
          rfl
        have hmA := h.inv.mem.alloc T z.cells
        refine .inl ?_
        unfold Oper.wp
        rw [hrun]
        have hput := hsw.put hA0 (Array.getElem?_eq_some_iff.1 hA0).1 hA2 (Nat.le_of_ble_eq_true hAN) hre (hmA.sub (List.sublist_cons_self _ _))
        rw [upd_self] at hput
        refine ih w.heap.size _ _ _ ⟨hput, fun _ => ?_⟩ hcnt
        rw [getD_set hlt, if_neg (Ne.symm hne), hicF]
        exact hmA
      · by_cases hic : i = ic
        · subst hic
          rw [hC0] at ho
          cases ho
          have hwant : Region.wanted oC (yielded l.toArray a.tmps) = true := by simp [Region.wanted, hC3]
          rw [if_pos hwant]
          have hiaT : L.getD ia false = true := by
            obtain ⟨e, he, hb, hon⟩ := dirOn_edge hC0 hdca
            have := hre e he hb
            rwa [hon] at this
          have hmem := h.blk hiaT
          rw [hoff] at hmem
          have ex : a.eval (.tmp da) = .pointer (some ⟨b, 0, Option.none⟩) := by
            show a.tmps.getD da undef = _
            rw [h.inv.done ia oA da hA0 hA2 hiaT, upd_self]
          have ey : a.eval y = v := by
            rw [← hy]
            cases y with
            | tmp s =>
              show a.tmps.getD s undef = tF s
              rw [hreads s (fun j p hj hp => (mixOk_read hok hC0 (by rw [hC1]; simp [Op.operands])).1 j p hj hp)]
              exact upd_ne _ _ (fun e => hyd (by rw [e]))
            | _ => rfl
          refine .inl (hstr a oC _ y b m w _ _ hC1 hC2 ex ey hmem fun w' hm' => ?_)
          have hn := h.inv.none hC0 hC2 hre (hm'.sub (List.sublist_cons_self _ _))
          refine ih b _ _ _ ⟨hn, fun _ => ?_⟩ hcnt
          rw [getD_set hlt, if_pos rfl]
          exact hm'
        · obtain ⟨d, hd, hdN, hcase⟩ := hF2 i o (Nat.zero_le _) hia hic ho
          have hdda : d ≠ da := fun e => hia (hda i o ho (by rw [← e]; exact hd))
          have hguard : ∀ g u p e, o.guard = some (g, u) → l.toArray[g]? = some p → p.dst = some e → a.tmps.getD e undef = tF e := fun g u p e hg hp he => by
            obtain ⟨hdir, hga, hgc⟩ := mixOk_guard hok ho hg
            have hne2 : e ≠ da := fun e2 => hga (hda g p hp (by rw [← e2]; exact he))
            obtain ⟨e', he', hun⟩ := mixOk_dst hok hp hgc
            rw [he] at he'
            cases he'
            rw [hreads e (fun j q hj hq => by rw [hun j q hj hq]; exact hdir), upd_ne _ _ hne2]
          have keep : ∀ w', Below w.heap.size w w' → InvA P N w0 l.toArray m ia ic da T z.cells cs' t tF b (L.setIfInBounds i true) (a.put o.dst (tF d)) w' := fun w' hb => by
            have hput := h.inv.put ho (Array.getElem?_eq_some_iff.1 ho).1 hd hdN hre (h.inv.mem.step hb)
            rw [upd_ne _ _ hdda] at hput
            refine ⟨hput, fun hL => ?_⟩
            rw [getD_set hlt, if_neg (Ne.symm hia)] at hL
            rw [getD_set hlt, if_neg (Ne.symm hic)]
            exact (h.blk hL).step hb
          rcases hcase with ⟨hw, hq⟩ | ⟨hw, hu⟩
          · rw [if_pos (wanted_of hw hguard)]
            refine .inl (hq a o w _ _ rfl (fun x hx => ?_) h.inv.mem fun w' hb => ih b _ _ _ (keep w' hb) hcnt)
            cases x with
            | tmp s =>
              obtain ⟨h1, h2⟩ := mixOk_read hok ho hx
              show a.tmps.getD s undef = tF s
              rw [hreads s h1, upd_ne _ _ (h2 hic)]
            | _ => rfl
          · rw [if_neg (by rw [wanted_of hw hguard]; simp)]
            have := keep w (Below.refl _ _)
            rw [hu] at this
            exact ih b _ _ _ this hcnt
end
end Go.Proofs.Ytfmamihoaklogaa.T
