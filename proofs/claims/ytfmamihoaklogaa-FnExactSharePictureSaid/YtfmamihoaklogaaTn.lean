/- A region whose order is open, with one store behind which some of the drawn operations may still come (used by the claims of this seat). -/
import Derived.Test.YtfmamihoaklogaaTb
import Derived.Test.YtfmamihoaklogaaTh
namespace Go.Proofs.Ytfmamihoaklogaa.T
open Go.RowKit
set_option linter.unusedVariables false
set_option linter.unusedSimpArgs false

/-- Operations that read no memory. -/
def pureOp (o : Op) : Bool := match o with | .move _ => true | .indexAddr _ _ _ => true | .slice _ _ _ _ _ => true | _ => false
/-- The first n may be drawn; the next is a store that waits for all that read memory. -/
def drawOkM (ops : Array Oper) (n : Nat) : Bool :=
  drawOkR ops n && (match ops[n]? with
    | some o => o.after.toList.all (fun e => !Region.binds .any e || Nat.blt e.on n) &&
      ((match o.dst with | some _ => false | none => true) &&
      ((slotsOf o.op.operands.toList).all (fun s => (List.range n).all fun j => !dstIs ops j s || dirOn ops n j) &&
      ((List.range n).all fun i => match ops[i]? with | some p => pureOp p.op || dirOn ops n i | none => false)))
    | none => false)
inductive SqM (P : Program) (N : Nat) (w0 : World) (m : List Itm) (ops : Array Oper) (K : Fr → Prop) : List Oper → Fr → Prop where
  | nil {t : Fr} (h : K t) : SqM P N w0 m ops K [] t
  | run {o : Oper} {d : Nat} {v : Value} {l : List Oper} {t : Fr} (hd : o.dst = some d) (hN : Nat.ble (d + 1) N = true) (hw : wants ops t o = some true) (hp : pureOp o.op = false) (h : Qt P w0 t m o.op v) (k : SqM P N w0 m ops K l (upd t d v)) : SqM P N w0 m ops K (o :: l) t
  | pure {o : Oper} {d : Nat} {v : Value} {l : List Oper} {t : Fr} (hd : o.dst = some d) (hN : Nat.ble (d + 1) N = true) (hw : wants ops t o = some true) (h : ∀ m', Qt P w0 t m' o.op v) (k : SqM P N w0 m ops K l (upd t d v)) : SqM P N w0 m ops K (o :: l) t
/-- What an operation writes into memory. -/
def Wr (P : Program) (w0 : World) (t : Fr) (m m' : List Itm) (op : Op) : Prop :=
  ∀ (a : Act) (o : Oper) (w : World) (K : Act → World → Prop) (Q : Exit → Act → World → Prop), o.op = op → o.dst = none → (∀ x ∈ op.operands, a.eval x = ev t x) → Mem w0 m w →
    (∀ w', Mem w0 m' w' → K a w') → o.wp P a w K Q
section
variable {P : Program} {N n : Nat} {w0 : World} {Q : Pst} {ops : Array Oper} {m m' : List Itm} {K : Fr → Prop}
theorem drawOkM_R (h : drawOkM ops n = true) : drawOkR ops n = true := by
  unfold drawOkM at h
  rw [Bool.and_eq_true] at h
  exact h.1
theorem drawOkM_A (h : drawOkM ops n = true) {o : Oper} (ho : ops[n]? = some o) : (∀ e ∈ o.after, Region.binds .any e = true → e.on < n) ∧ o.dst = none ∧
    (∀ s j p, Operand.tmp s ∈ o.op.operands → j < n → ops[j]? = some p → p.dst = some s → dirOn ops n j = true) ∧ ∀ i p, i < n → ops[i]? = some p → pureOp p.op = false → dirOn ops n i = true := by
  unfold drawOkM at h
  rw [Bool.and_eq_true, ho] at h
  simp only [Bool.and_eq_true] at h
  obtain ⟨_, h1, h2, h3, h4⟩ := h
  refine ⟨fun e he hb => ?_, ?_, fun s j p hs hj hp hd => ?_, fun i p hi hp hpu => ?_⟩
  · have := List.all_eq_true.1 h1 e (by simpa using he)
    rw [hb] at this
    have h2 : Nat.blt e.on n = true := by simpa only [Bool.not_true, Bool.false_or] using this
    exact Nat.le_of_ble_eq_true h2
  · cases hd : o.dst with
    | none => rfl
    | some d => rw [hd] at h2; cases h2
  · have h5 := List.all_eq_true.1 h3 s (by
      simp only [slotsOf, List.mem_filterMap]
      exact ⟨.tmp s, by simpa using hs, rfl⟩)
    have h6 := List.all_eq_true.1 h5 j (List.mem_range.2 hj)
    have h7 : dstIs ops j s = true := by simp only [dstIs, hp, hd]; exact Nat.beq_refl s
    rw [h7] at h6
    simpa using h6
  · have h5 := List.all_eq_true.1 h4 i (List.mem_range.2 hi)
    rw [hp] at h5
    simp only [hpu, Bool.false_or] at h5
    exact h5
theorem SqM.fin (hok : drawOkM ops n = true) : ∀ (l : List Oper) (b : Nat) (t : Fr), (ops.toList.take n).drop b = l → SqM P N w0 m ops K l t →
    ∃ tF, K tF ∧ (∀ s, (∀ i o, b ≤ i → i < n → ops[i]? = some o → o.dst ≠ some s) → tF s = t s) ∧
      ∀ i o d, b ≤ i → i < n → ops[i]? = some o → o.dst = some d → d < N ∧ (wants ops tF o = some true ∧ ((pureOp o.op = false ∧ Qt P w0 tF m o.op (tF d)) ∨ ∀ m', Qt P w0 tF m' o.op (tF d)))
  | [], b, t, hl, .nil hK => by
    refine ⟨t, hK, fun _ _ => rfl, fun i o d hn hin hi _ => ?_⟩
    have := List.drop_eq_nil_iff.1 hl
    have := (Array.getElem?_eq_some_iff.1 hi).1
    simp at *
    omega
  | o :: l, b, t, hl, hs => by
    have h0 : ((ops.toList.take n).drop b)[0]? = some o := by rw [hl]; rfl
    rw [List.getElem?_drop, Nat.add_zero, List.getElem?_take] at h0
    have hbn : b < n := by
      by_cases h : b < n
      · exact h
      · rw [if_neg h] at h0; cases h0
    rw [if_pos hbn] at h0
    have hon : ops[b]? = some o := by simpa using h0
    have hl' : (ops.toList.take n).drop (b + 1) = l := by
      rw [← List.drop_drop, hl]
      rfl
    obtain ⟨d, hd, hun⟩ := drawOkR_dst (drawOkM_R hok) hon hbn
    have main : ∀ v, SqM P N w0 m ops K l (upd t d v) → d < N → (wants ops t o = some true ∧ ((pureOp o.op = false ∧ Qt P w0 t m o.op v) ∨ ∀ m', Qt P w0 t m' o.op v)) → ∃ tF, K tF ∧ (∀ s, (∀ i o, b ≤ i → i < n → ops[i]? = some o → o.dst ≠ some s) → tF s = t s) ∧
      ∀ i o d, b ≤ i → i < n → ops[i]? = some o → o.dst = some d → d < N ∧ (wants ops tF o = some true ∧ ((pureOp o.op = false ∧ Qt P w0 tF m o.op (tF d)) ∨ ∀ m', Qt P w0 tF m' o.op (tF d))) := by
      intro v hk hdN hv
      obtain ⟨tF, h1, h2, h3⟩ := SqM.fin hok l (b + 1) (upd t d v) hl' hk
      have hself : tF d = v := by
        rw [h2 d (fun i p hi _ hp hpd => by have := hun i p hp hpd; omega), upd_self]
      have hback : ∀ s, (∀ i p, b ≤ i → i < n → ops[i]? = some p → p.dst ≠ some s) → tF s = t s := by
        intro s hs
        have hsd : s ≠ d := fun e => hs b o (Nat.le_refl _) hbn hon (by rw [e]; exact hd)
        rw [h2 s (fun i p hi => hs i p (by omega)), upd_ne _ _ hsd]
      refine ⟨tF, h1, hback, fun i p e hi hin hp he => ?_⟩
      by_cases hib : i = b
      · subst hib
        rw [hon] at hp
        cases hp
        rw [hd] at he
        cases he
        refine ⟨hdN, ?_⟩
        rw [hself]
        have hw : ∀ u, wants ops t o = some u → wants ops tF o = some u := fun u hb => wants_congr hb (by
          intro g u q e hg hq he
          refine (hback e ?_).symm
          intro j r hj hjn hr hre
          obtain ⟨ed, hed, heb, hon2⟩ := dirOn_edge hon (drawOkR_guard (drawOkM_R hok) hon hbn hg)
          have hlt := drawOkR_back (drawOkM_R hok) hon hbn hed heb
          obtain ⟨e', he', hun'⟩ := drawOkR_dst (drawOkM_R hok) hq (by omega)
          rw [he] at he'
          cases he'
          have := hun' j r hr hre
          omega)
        have hq : ∀ v m', Qt P w0 t m' o.op v → Qt P w0 tF m' o.op v := fun v m' hv => hv.congr (by
          intro x hx
          cases x with
          | tmp s =>
            refine (hback s ?_).symm
            intro j r hj hjn hr hre
            obtain ⟨ed, hed, heb, hon2⟩ := dirOn_edge hon (drawOkR_read (drawOkM_R hok) hon hbn hx hr hre hjn)
            have hlt := drawOkR_back (drawOkM_R hok) hon hbn hed heb
            omega
          | _ => rfl)
        refine ⟨hw _ hv.1, ?_⟩
        rcases hv.2 with ⟨a, b⟩ | b
        · exact .inl ⟨a, hq _ _ b⟩
        · exact .inr fun m' => hq _ _ (b m')
      · exact h3 i p e (by omega) hin hp he
    cases hs with
    | run hd' hN hw hp h k =>
      rw [hd] at hd'
      cases hd'
      exact main _ k (Nat.le_of_ble_eq_true hN) ⟨hw, .inl ⟨hp, h⟩⟩
    | pure hd' hN hw h k =>
      rw [hd] at hd'
      cases hd'
      exact main _ k (Nat.le_of_ble_eq_true hN) ⟨hw, .inr h⟩
theorem inv_noneM {k : Nat} {m2 : List Itm} {t tF : Fr} {L : Array Bool} {a : Act} {w w' : World} (h : Inv N k w0 ops m t tF L a w) {i : Nat} {o : Oper} (hik : i < k) (ho : ops[i]? = some o) (hd : o.dst = none)
    (hr : ∀ e ∈ o.after, Region.binds .any e = true → L.getD e.on false = true) (hm : Mem w0 m2 w') : Inv N k w0 ops m2 t tF (L.setIfInBounds i true) a w' := by
  have hi : i < L.size := by rw [h.size]; exact (Array.getElem?_eq_some_iff.1 ho).1
  have hmono : ∀ j, L.getD j false = true → (L.setIfInBounds i true).getD j false = true := fun j hj => by
    rw [getD_set hi]
    split
    · rfl
    · exact hj
  refine ⟨by simp [h.size], h.asize, h.defers, hm, ?_, ?_, ?_, ?_⟩
  · intro j hj
    rw [getD_set hi, if_neg (by omega)]
    exact h.low j hj
  · intro j p hp hj e he hb
    rw [getD_set hi] at hj
    by_cases hji : j = i
    · subst hji
      rw [ho] at hp
      cases hp
      exact hmono _ (hr e he hb)
    · rw [if_neg hji] at hj
      exact hmono _ (h.shut j p hp hj e he hb)
  · intro j p e hp he hj
    rw [getD_set hi] at hj
    by_cases hji : j = i
    · subst hji
      rw [ho] at hp
      cases hp
      rw [hd] at he
      cases he
    · rw [if_neg hji] at hj
      exact h.done j p e hp he hj
  · intro s hs
    exact h.rest s fun j p hp hj => hs j p hp (hmono j hj)
theorem readyM {L : Array Bool} (hok : drawOkM ops n = true) (hns : n + 1 ≤ ops.size) (hs : L.size = ops.size) (hno : ∀ i, i < n + 1 → i ∉ Region.ready .any ops L) : ∀ k i, i ≤ k → i < n + 1 → L.getD i false = true := by
  have back : ∀ i o, i < n + 1 → ops[i]? = some o → ∀ e ∈ o.after, Region.binds .any e = true → e.on < i := fun i o hi ho e he hb => by
    by_cases h : i < n
    · exact drawOkR_back (drawOkM_R hok) ho h he hb
    · have e1 : i = n := by omega
      subst e1
      exact (drawOkM_A hok ho).1 e he hb
  intro k
  induction k with
  | zero =>
    intro i hi hin
    cases hL : L.getD i false with
    | true => rfl
    | false =>
      exfalso
      have hlt : i < ops.size := by omega
      refine hno i hin (ready_of hs (Array.getElem?_eq_getElem hlt) hL fun e he hb => ?_)
      have := back i _ hin (Array.getElem?_eq_getElem hlt) e he hb
      omega
  | succ k ih =>
    intro i hi hin
    cases hL : L.getD i false with
    | true => rfl
    | false =>
      exfalso
      have hlt : i < ops.size := by omega
      refine hno i hin (ready_of hs (Array.getElem?_eq_getElem hlt) hL fun e he hb => ?_)
      have := back i _ hin (Array.getElem?_eq_getElem hlt) e he hb
      exact ih e.on (by omega) (by omega)
/-- What stands while the operations come up: before the store m, behind it m'. -/
abbrev InvM (N n : Nat) (w0 : World) (ops : Array Oper) (m m' : List Itm) (t tF : Fr) (L : Array Bool) (a : Act) (w : World) : Prop :=
  Inv N (n + 1) w0 ops (_root_.cond (L.getD n false) m' m) t tF L a w
theorem W.drawM {id : Nat} {l : List Oper} {t : Fr} {oA : Oper} (n : Nat) (hmx : P.follows .mixedOrders = true) (hok : drawOkM l.toArray n = true) (ht : tailOk l.toArray (n + 1) = true) (hn : Nat.ble (n + 1) l.length = true)
    (hA : l[n]? = some oA) (hA3 : oA.guard = none)
    (hs : SqM P N w0 m l.toArray (fun t' => ∃ m', Wr P w0 t' m m' oA.op ∧ Wl P N w0 l.toArray Q (l.drop (n + 1)) t' m') (l.take n) t) : W P N w0 (.region id l.toArray true) Q t m := fun a w hf hm => by
  have hokR := drawOkM_R hok
  have hns : n + 1 ≤ l.toArray.size := by simpa using Nat.le_of_ble_eq_true hn
  obtain ⟨tF, ⟨m', hwr, hQ⟩, hF1, hF2⟩ := SqM.fin (n := n) hok (l.take n) 0 t (by simp) hs
  have hA0 : l.toArray[n]? = some oA := by simpa using hA
  obtain ⟨hAb, hA2, hAr, hAw⟩ := drawOkM_A hok hA0
  have hF1' : ∀ s, (∀ (i : Nat) (o : Oper), i < n + 1 → l.toArray[i]? = some o → o.dst ≠ some s) → tF s = t s := fun s hs => hF1 s fun i o _ hi => hs i o (by omega)
  refine wp_region_any hmx ?_
  suffices main : ∀ (f : Nat) (L : Array Bool) (a : Act) (w : World), InvM N n w0 l.toArray m m' t tF L a w → cnt L.toList ≤ f → wpAny P .any l.toArray (lift N w0 Q) f L a w by
    have hfalse : (Array.replicate l.toArray.size false).getD n false = false := by
      have hlt' : n < l.length := by simpa using (Array.getElem?_eq_some_iff.1 hA0).1
      simp [hlt']
    refine main l.toArray.size _ a _ ⟨by simp, hf.size, hf.defers, ?_, ?_, ?_, ?_, ?_⟩ ?_
    · rw [hfalse]
      exact hm.drew
    · intro i _
      by_cases hlt : i < l.length <;> simp [Array.getElem?_replicate, hlt]
    · intro i o ho hi
      have hlt' : i < l.length := by simpa using (Array.getElem?_eq_some_iff.1 ho).1
      simp [Array.getElem?_replicate, hlt'] at hi
    · intro i o d ho hd hi
      have hlt' : i < l.length := by simpa using (Array.getElem?_eq_some_iff.1 ho).1
      simp [Array.getElem?_replicate, hlt'] at hi
    · intro s _
      exact hf.get s
    · simp only [cnt]
      exact Nat.le_trans (List.length_filter_le _ _) (by simp)
  have done : ∀ (f : Nat) (L : Array Bool) (a : Act) (w : World), InvM N n w0 l.toArray m m' t tF L a w → cnt L.toList ≤ f → (∀ i, i < n + 1 → L.getD i false = true) → wpAny P .any l.toArray (lift N w0 Q) f L a w := by
    intro f L a w h hc hall
    have hmem := h.mem
    rw [hall n (Nat.lt_succ_self n)] at hmem
    have hfit : Fits N a tF := ⟨h.asize, fun s => by
      by_cases hx : ∃ (j : Nat) (p : Oper), j < n + 1 ∧ l.toArray[j]? = some p ∧ p.dst = some s
      · obtain ⟨j, p, hjn, hj, hp⟩ := hx
        exact h.done j p s hj hp (hall j hjn)
      · have hno : ∀ (j : Nat) (p : Oper), j < n + 1 → l.toArray[j]? = some p → p.dst ≠ some s := fun j p hjn hj hp => hx ⟨j, p, hjn, hj, hp⟩
        rw [h.rest s fun j p hj hL => hno j p (h.lt hL) hj, hF1' s hno], h.defers⟩
    refine tail_run ht _ (n + 1) f L a w (Nat.le_refl _) rfl h.size hall h.low ?_ (by
      have := hQ a w hfit hmem
      simpa using this)
    have := cnt_from L.toList (n + 1) (fun i hi => by have := h.low i hi; simpa [Array.getD_eq_getD_getElem?, List.getD_eq_getElem?_getD] using this) (fun i hi => by have := hall i hi; simpa [Array.getD_eq_getD_getElem?, List.getD_eq_getElem?_getD] using this)
    simp only [Array.length_toList, h.size] at this
    simp at this ⊢
    omega
  intro f
  induction f with
  | zero =>
    intro L a w h hc
    refine done 0 L a w h hc fun i hi => ?_
    have := cnt_zero (Nat.le_zero.1 hc) i (by have := h.size; simp at this ⊢; simp at hns; omega)
    rw [Array.getElem?_toList] at this
    simp [this]
  | succ f ih =>
    intro L a w h hc
    by_cases hall : ∀ i, i < n + 1 → L.getD i false = true
    · exact done (f + 1) L a w h hc hall
    · refine ⟨fun hr => absurd (fun i hi => readyM hok hns h.size (fun j _ hj => by rw [hr] at hj; cases hj) i i (Nat.le_refl _) hi) hall, fun i hi => ?_⟩
      have hin : i < n + 1 := by
        by_cases hlt : i < n + 1
        · exact hlt
        · exact absurd (tail_all ht h (by omega) hi).2 hall
      obtain ⟨h0, o, ho, hre⟩ := mem_ready.1 hi
      have hoff := ready_off hi
      have hlt : i < L.size := by rw [h.size]; exact (Array.getElem?_eq_some_iff.1 ho).1
      have hLi : L.toList[i]? = some false := by
        rw [Array.getElem?_toList, Array.getElem?_eq_getElem hlt]
        rw [Array.getD_eq_getD_getElem?, Array.getElem?_eq_getElem hlt] at hoff
        simpa using hoff
      have hcnt : cnt (L.setIfInBounds i true).toList ≤ f := by
        have := cnt_set _ _ hLi
        rw [Array.toList_setIfInBounds]
        omega
      have hreads : ∀ s, (∀ j p, j < n → l.toArray[j]? = some p → p.dst = some s → dirOn l.toArray i j = true) → a.tmps.getD s undef = tF s := fun s hs => by
        by_cases hx : ∃ (j : Nat) (p : Oper), j < n ∧ l.toArray[j]? = some p ∧ p.dst = some s
        · obtain ⟨j, p, hjn, hj, hp⟩ := hx
          obtain ⟨e, he, hb, hon⟩ := dirOn_edge ho (hs j p hjn hj hp)
          have := hre e he hb
          rw [hon] at this
          exact h.done j p s hj hp this
        · have hno : ∀ (j : Nat) (p : Oper), j < n + 1 → l.toArray[j]? = some p → p.dst ≠ some s := fun j p hjn hj hp => by
            by_cases hj2 : j < n
            · exact hx ⟨j, p, hj2, hj, hp⟩
            · have e1 : j = n := by omega
              subst e1
              rw [hA0] at hj
              cases hj
              rw [hA2] at hp
              cases hp
          rw [h.rest s fun j p hj hL => hno j p (h.lt hL) hj, hF1' s hno]
      unfold wpOp
      rw [ho]
      simp only
      by_cases hia : i = n
      · subst hia
        rw [hA0] at ho
        cases ho
        have hwant : Region.wanted oA (yielded l.toArray a.tmps) = true := by simp [Region.wanted, hA3]
        rw [if_pos hwant]
        have hmem := h.mem
        rw [hoff] at hmem
        refine .inl (hwr a oA w _ _ rfl hA2 (fun x hx => ?_) hmem fun w' hm' => ?_)
        · cases x with
          | tmp s => exact hreads s fun j p hj hjp hp => hAr s j p hx hj hjp hp
          | _ => rfl
        · have hn' := inv_noneM (m2 := m') h hin hA0 hA2 hre hm'
          refine ih _ _ _ ?_ hcnt
          show Inv _ _ _ _ (_root_.cond ((L.setIfInBounds _ true).getD _ false) m' m) _ _ _ _ _
          rw [getD_set hlt, if_pos rfl]
          exact hn'
      · have hin' : i < n := by omega
        obtain ⟨d, hd, _⟩ := drawOkR_dst hokR ho hin'
        obtain ⟨hdN, hw, hcase⟩ := hF2 i o d (Nat.zero_le _) hin' ho hd
        have hguard : ∀ g u p e, o.guard = some (g, u) → l.toArray[g]? = some p → p.dst = some e → a.tmps.getD e undef = tF e := fun g u p e hg hp he => by
          have hdir := drawOkR_guard hokR ho hin' hg
          obtain ⟨ed, hed, heb, hon⟩ := dirOn_edge ho hdir
          have := drawOkR_back hokR ho hin' hed heb
          obtain ⟨e', he', hun⟩ := drawOkR_dst hokR hp (by omega)
          rw [he] at he'
          cases he'
          refine hreads e fun j q _ hj hq => ?_
          rw [hun j q hj hq]
          exact hdir
        have hops : ∀ x ∈ o.op.operands, a.eval x = ev tF x := fun x hx => by
          cases x with
          | tmp s => exact hreads s fun j p hj hjp hp => drawOkR_read hokR ho hin' hx hjp hp hj
          | _ => rfl
        have hqt : Qt P w0 tF (_root_.cond (L.getD n false) m' m) o.op (tF d) := by
          rcases hcase with ⟨hp, hq⟩ | hq
          · have hLn : L.getD n false = false := by
              cases hLn : L.getD n false with
              | false => rfl
              | true =>
                obtain ⟨e, he, hb, hon⟩ := dirOn_edge hA0 (hAw i o hin' ho hp)
                have := h.shut n oA hA0 hLn e he hb
                rw [hon, hoff] at this
                cases this
            rw [hLn]
            exact hq
          · exact hq _
        rw [if_pos (wanted_of hw hguard)]
        refine .inl (hqt a o w _ _ rfl hops h.mem fun w' hb => ih _ _ _ ?_ hcnt)
        show Inv _ _ _ _ (_root_.cond ((L.setIfInBounds _ true).getD _ false) m' m) _ _ _ _ _
        rw [getD_set hlt, if_neg (Ne.symm hia)]
        exact h.put ho hin hd hdN hre (h.mem.step hb)
/-- As drawOkM, for an operation that yields a value. -/
def drawOkV (ops : Array Oper) (n : Nat) : Bool :=
  drawOkR ops (n + 1) && ((List.range n).all fun i => match ops[i]? with | some p => pureOp p.op || dirOn ops n i | none => false)
theorem drawOkV_R (h : drawOkV ops n = true) : drawOkR ops (n + 1) = true := by
  unfold drawOkV at h
  rw [Bool.and_eq_true] at h
  exact h.1
theorem drawOkV_A (h : drawOkV ops n = true) : ∀ i p, i < n → ops[i]? = some p → pureOp p.op = false → dirOn ops n i = true := by
  unfold drawOkV at h
  rw [Bool.and_eq_true] at h
  intro i p hi hp hpu
  have h5 := List.all_eq_true.1 h.2 i (List.mem_range.2 hi)
  rw [hp] at h5
  simp only [hpu, Bool.false_or] at h5
  exact h5
/-- What an operation writes into memory, and the value that it yields. -/
def WrV (P : Program) (w0 : World) (t : Fr) (m m' : List Itm) (op : Op) (v : Value) : Prop :=
  ∀ (a : Act) (o : Oper) (w : World) (K : Act → World → Prop) (Q : Exit → Act → World → Prop), o.op = op → (∀ x ∈ op.operands, a.eval x = ev t x) → Mem w0 m w →
    (∀ w', Mem w0 m' w' → K (a.put o.dst v) w') → o.wp P a w K Q
theorem SqM.finR (hok : drawOkR ops n = true) : ∀ (l : List Oper) (b : Nat) (t : Fr), (ops.toList.take n).drop b = l → SqM P N w0 m ops K l t →
    ∃ tF, K tF ∧ (∀ s, (∀ i o, b ≤ i → i < n → ops[i]? = some o → o.dst ≠ some s) → tF s = t s) ∧
      ∀ i o d, b ≤ i → i < n → ops[i]? = some o → o.dst = some d → d < N ∧ (wants ops tF o = some true ∧ ((pureOp o.op = false ∧ Qt P w0 tF m o.op (tF d)) ∨ ∀ m', Qt P w0 tF m' o.op (tF d)))
  | [], b, t, hl, .nil hK => by
    refine ⟨t, hK, fun _ _ => rfl, fun i o d hn hin hi _ => ?_⟩
    have := List.drop_eq_nil_iff.1 hl
    have := (Array.getElem?_eq_some_iff.1 hi).1
    simp at *
    omega
  | o :: l, b, t, hl, hs => by
    have h0 : ((ops.toList.take n).drop b)[0]? = some o := by rw [hl]; rfl
    rw [List.getElem?_drop, Nat.add_zero, List.getElem?_take] at h0
    have hbn : b < n := by
      by_cases h : b < n
      · exact h
      · rw [if_neg h] at h0; cases h0
    rw [if_pos hbn] at h0
    have hon : ops[b]? = some o := by simpa using h0
    have hl' : (ops.toList.take n).drop (b + 1) = l := by
      rw [← List.drop_drop, hl]
      rfl
    obtain ⟨d, hd, hun⟩ := drawOkR_dst hok hon hbn
    have main : ∀ v, SqM P N w0 m ops K l (upd t d v) → d < N → (wants ops t o = some true ∧ ((pureOp o.op = false ∧ Qt P w0 t m o.op v) ∨ ∀ m', Qt P w0 t m' o.op v)) → ∃ tF, K tF ∧ (∀ s, (∀ i o, b ≤ i → i < n → ops[i]? = some o → o.dst ≠ some s) → tF s = t s) ∧
      ∀ i o d, b ≤ i → i < n → ops[i]? = some o → o.dst = some d → d < N ∧ (wants ops tF o = some true ∧ ((pureOp o.op = false ∧ Qt P w0 tF m o.op (tF d)) ∨ ∀ m', Qt P w0 tF m' o.op (tF d))) := by
      intro v hk hdN hv
      obtain ⟨tF, h1, h2, h3⟩ := SqM.finR hok l (b + 1) (upd t d v) hl' hk
      have hself : tF d = v := by
        rw [h2 d (fun i p hi _ hp hpd => by have := hun i p hp hpd; omega), upd_self]
      have hback : ∀ s, (∀ i p, b ≤ i → i < n → ops[i]? = some p → p.dst ≠ some s) → tF s = t s := by
        intro s hs
        have hsd : s ≠ d := fun e => hs b o (Nat.le_refl _) hbn hon (by rw [e]; exact hd)
        rw [h2 s (fun i p hi => hs i p (by omega)), upd_ne _ _ hsd]
      refine ⟨tF, h1, hback, fun i p e hi hin hp he => ?_⟩
      by_cases hib : i = b
      · subst hib
        rw [hon] at hp
        cases hp
        rw [hd] at he
        cases he
        refine ⟨hdN, ?_⟩
        rw [hself]
        have hw : ∀ u, wants ops t o = some u → wants ops tF o = some u := fun u hb => wants_congr hb (by
          intro g u q e hg hq he
          refine (hback e ?_).symm
          intro j r hj hjn hr hre
          obtain ⟨ed, hed, heb, hon2⟩ := dirOn_edge hon (drawOkR_guard hok hon hbn hg)
          have hlt := drawOkR_back hok hon hbn hed heb
          obtain ⟨e', he', hun'⟩ := drawOkR_dst hok hq (by omega)
          rw [he] at he'
          cases he'
          have := hun' j r hr hre
          omega)
        have hq : ∀ v m', Qt P w0 t m' o.op v → Qt P w0 tF m' o.op v := fun v m' hv => hv.congr (by
          intro x hx
          cases x with
          | tmp s =>
            refine (hback s ?_).symm
            intro j r hj hjn hr hre
            obtain ⟨ed, hed, heb, hon2⟩ := dirOn_edge hon (drawOkR_read hok hon hbn hx hr hre hjn)
            have hlt := drawOkR_back hok hon hbn hed heb
            omega
          | _ => rfl)
        refine ⟨hw _ hv.1, ?_⟩
        rcases hv.2 with ⟨a, b⟩ | b
        · exact .inl ⟨a, hq _ _ b⟩
        · exact .inr fun m' => hq _ _ (b m')
      · exact h3 i p e (by omega) hin hp he
    cases hs with
    | run hd' hN hw hp h k =>
      rw [hd] at hd'
      cases hd'
      exact main _ k (Nat.le_of_ble_eq_true hN) ⟨hw, .inl ⟨hp, h⟩⟩
    | pure hd' hN hw h k =>
      rw [hd] at hd'
      cases hd'
      exact main _ k (Nat.le_of_ble_eq_true hN) ⟨hw, .inr h⟩
theorem W.drawV {id da : Nat} {l : List Oper} {t : Fr} {oA : Oper} (n : Nat) (hmx : P.follows .mixedOrders = true) (hok : drawOkV l.toArray n = true) (ht : tailOk l.toArray (n + 1) = true) (hn : Nat.ble (n + 1) l.length = true)
    (hA : l[n]? = some oA) (hA2 : oA.dst = some da) (hA3 : oA.guard = none) (hAN : Nat.ble (da + 1) N = true)
    (hs : SqM P N w0 m l.toArray (fun t' => ∃ m' v, WrV P w0 t' m m' oA.op v ∧ Wl P N w0 l.toArray Q (l.drop (n + 1)) (upd t' da v) m') (l.take n) t) : W P N w0 (.region id l.toArray true) Q t m := fun a w hf hm => by
  have hokR1 := drawOkV_R hok
  have hokR := drawOkR_less hokR1
  have hns : n + 1 ≤ l.toArray.size := by simpa using Nat.le_of_ble_eq_true hn
  obtain ⟨tF, ⟨m', v, hwr, hQ⟩, hF1, hF2⟩ := SqM.finR (n := n) hokR (l.take n) 0 t (by simp) hs
  have hA0 : l.toArray[n]? = some oA := by simpa using hA
  have hAw := drawOkV_A hok
  have hda : ∀ j p, l.toArray[j]? = some p → p.dst = some da → j = n := by
    obtain ⟨d, hd, hun⟩ := drawOkR_dst hokR1 hA0 (Nat.lt_succ_self n)
    rw [hA2] at hd
    cases hd
    exact hun
  have hF1' : ∀ s, (∀ (i : Nat) (o : Oper), i < n + 1 → l.toArray[i]? = some o → o.dst ≠ some s) → upd tF da v s = t s := fun s hs => by
    rw [upd_ne _ _ (fun e => hs n oA (Nat.lt_succ_self n) hA0 (by rw [e]; exact hA2))]
    exact hF1 s fun i o _ hi => hs i o (by omega)
  refine wp_region_any hmx ?_
  suffices main : ∀ (f : Nat) (L : Array Bool) (a : Act) (w : World), InvM N n w0 l.toArray m m' t (upd tF da v) L a w → cnt L.toList ≤ f → wpAny P .any l.toArray (lift N w0 Q) f L a w by
    have hfalse : (Array.replicate l.toArray.size false).getD n false = false := by
      have hlt' : n < l.length := by simpa using (Array.getElem?_eq_some_iff.1 hA0).1
      simp [hlt']
    refine main l.toArray.size _ a _ ⟨by simp, hf.size, hf.defers, ?_, ?_, ?_, ?_, ?_⟩ ?_
    · rw [hfalse]
      exact hm.drew
    · intro i _
      by_cases hlt : i < l.length <;> simp [Array.getElem?_replicate, hlt]
    · intro i o ho hi
      have hlt' : i < l.length := by simpa using (Array.getElem?_eq_some_iff.1 ho).1
      simp [Array.getElem?_replicate, hlt'] at hi
    · intro i o d ho hd hi
      have hlt' : i < l.length := by simpa using (Array.getElem?_eq_some_iff.1 ho).1
      simp [Array.getElem?_replicate, hlt'] at hi
    · intro s _
      exact hf.get s
    · simp only [cnt]
      exact Nat.le_trans (List.length_filter_le _ _) (by simp)
  have done : ∀ (f : Nat) (L : Array Bool) (a : Act) (w : World), InvM N n w0 l.toArray m m' t (upd tF da v) L a w → cnt L.toList ≤ f → (∀ i, i < n + 1 → L.getD i false = true) → wpAny P .any l.toArray (lift N w0 Q) f L a w := by
    intro f L a w h hc hall
    have hmem := h.mem
    rw [hall n (Nat.lt_succ_self n)] at hmem
    have hfit : Fits N a (upd tF da v) := ⟨h.asize, fun s => by
      by_cases hx : ∃ (j : Nat) (p : Oper), j < n + 1 ∧ l.toArray[j]? = some p ∧ p.dst = some s
      · obtain ⟨j, p, hjn, hj, hp⟩ := hx
        exact h.done j p s hj hp (hall j hjn)
      · have hno : ∀ (j : Nat) (p : Oper), j < n + 1 → l.toArray[j]? = some p → p.dst ≠ some s := fun j p hjn hj hp => hx ⟨j, p, hjn, hj, hp⟩
        rw [h.rest s fun j p hj hL => hno j p (h.lt hL) hj, hF1' s hno], h.defers⟩
    refine tail_run ht _ (n + 1) f L a w (Nat.le_refl _) rfl h.size hall h.low ?_ (by
      have := hQ a w hfit hmem
      simpa using this)
    have := cnt_from L.toList (n + 1) (fun i hi => by have := h.low i hi; simpa [Array.getD_eq_getD_getElem?, List.getD_eq_getElem?_getD] using this) (fun i hi => by have := hall i hi; simpa [Array.getD_eq_getD_getElem?, List.getD_eq_getElem?_getD] using this)
    simp only [Array.length_toList, h.size] at this
    simp at this ⊢
    omega
  intro f
  induction f with
  | zero =>
    intro L a w h hc
    refine done 0 L a w h hc fun i hi => ?_
    have := cnt_zero (Nat.le_zero.1 hc) i (by have := h.size; simp at this ⊢; simp at hns; omega)
    rw [Array.getElem?_toList] at this
    simp [this]
  | succ f ih =>
    intro L a w h hc
    by_cases hall : ∀ i, i < n + 1 → L.getD i false = true
    · exact done (f + 1) L a w h hc hall
    · refine ⟨fun hr => absurd (fun i hi => ready_someR hokR1 h.size (fun j _ hj => by rw [hr] at hj; cases hj) i i (Nat.le_refl _) hi) hall, fun i hi => ?_⟩
      have hin : i < n + 1 := by
        by_cases hlt : i < n + 1
        · exact hlt
        · exact absurd (tail_all ht h (by omega) hi).2 hall
      obtain ⟨h0, o, ho, hre⟩ := mem_ready.1 hi
      have hoff := ready_off hi
      have hlt : i < L.size := by rw [h.size]; exact (Array.getElem?_eq_some_iff.1 ho).1
      have hLi : L.toList[i]? = some false := by
        rw [Array.getElem?_toList, Array.getElem?_eq_getElem hlt]
        rw [Array.getD_eq_getD_getElem?, Array.getElem?_eq_getElem hlt] at hoff
        simpa using hoff
      have hcnt : cnt (L.setIfInBounds i true).toList ≤ f := by
        have := cnt_set _ _ hLi
        rw [Array.toList_setIfInBounds]
        omega
      have hreads : ∀ s, (∀ j p, j < n + 1 → l.toArray[j]? = some p → p.dst = some s → dirOn l.toArray i j = true) → a.tmps.getD s undef = upd tF da v s := fun s hs => by
        by_cases hx : ∃ (j : Nat) (p : Oper), j < n + 1 ∧ l.toArray[j]? = some p ∧ p.dst = some s
        · obtain ⟨j, p, hjn, hj, hp⟩ := hx
          obtain ⟨e, he, hb, hon⟩ := dirOn_edge ho (hs j p hjn hj hp)
          have := hre e he hb
          rw [hon] at this
          exact h.done j p s hj hp this
        · have hno : ∀ (j : Nat) (p : Oper), j < n + 1 → l.toArray[j]? = some p → p.dst ≠ some s := fun j p hjn hj hp => hx ⟨j, p, hjn, hj, hp⟩
          rw [h.rest s fun j p hj hL => hno j p (h.lt hL) hj, hF1' s hno]
      have hnd : ∀ s, (∀ j p, j < n + 1 → l.toArray[j]? = some p → p.dst = some s → dirOn l.toArray i j = true) → s ≠ da := fun s hs e => by
        obtain ⟨ed, hed, heb, hon⟩ := dirOn_edge ho (hs n oA (Nat.lt_succ_self n) hA0 (by rw [e]; exact hA2))
        have := drawOkR_back hokR1 ho hin hed heb
        omega
      have hops : ∀ x ∈ o.op.operands, a.eval x = ev tF x := fun x hx => by
        cases x with
        | tmp s =>
          have h1 := fun j p hjn hj hp => drawOkR_read hokR1 ho hin hx (j := j) (p := p) hj hp hjn
          show a.tmps.getD s undef = tF s
          rw [hreads s h1, upd_ne _ _ (hnd s h1)]
        | _ => rfl
      unfold wpOp
      rw [ho]
      simp only
      by_cases hia : i = n
      · subst hia
        rw [hA0] at ho
        cases ho
        have hwant : Region.wanted oA (yielded l.toArray a.tmps) = true := by simp [Region.wanted, hA3]
        rw [if_pos hwant]
        have hmem := h.mem
        rw [hoff] at hmem
        refine .inl (hwr a oA w _ _ rfl hops hmem fun w' hm' => ?_)
        have h2 : Inv N (i + 1) w0 l.toArray m' t (upd tF da v) L a w' := ⟨h.size, h.asize, h.defers, hm', h.low, h.shut, h.done, h.rest⟩
        have hput := h2.put hA0 hin hA2 (Nat.le_of_ble_eq_true hAN) hre hm'
        rw [upd_self] at hput
        refine ih _ _ _ ?_ hcnt
        show Inv _ _ _ _ (_root_.cond ((L.setIfInBounds _ true).getD _ false) m' m) _ _ _ _ _
        rw [getD_set hlt, if_pos rfl]
        exact hput
      · have hin' : i < n := by omega
        obtain ⟨d, hd, _⟩ := drawOkR_dst hokR ho hin'
        obtain ⟨hdN, hw, hcase⟩ := hF2 i o d (Nat.zero_le _) hin' ho hd
        have hdda : d ≠ da := fun e => hia (hda i o ho (by rw [← e]; exact hd))
        have hguard : ∀ g u p e, o.guard = some (g, u) → l.toArray[g]? = some p → p.dst = some e → a.tmps.getD e undef = tF e := fun g u p e hg hp he => by
          have hdir := drawOkR_guard hokR1 ho hin hg
          obtain ⟨ed, hed, heb, hon⟩ := dirOn_edge ho hdir
          have := drawOkR_back hokR1 ho hin hed heb
          obtain ⟨e', he', hun⟩ := drawOkR_dst hokR1 hp (by omega)
          rw [he] at he'
          cases he'
          have h1 : ∀ j q, j < n + 1 → l.toArray[j]? = some q → q.dst = some e → dirOn l.toArray i j = true := fun j q _ hj hq => by
            rw [hun j q hj hq]
            exact hdir
          rw [hreads e h1, upd_ne _ _ (hnd e h1)]
        have hqt : Qt P w0 tF (_root_.cond (L.getD n false) m' m) o.op (tF d) := by
          rcases hcase with ⟨hp, hq⟩ | hq
          · have hLn : L.getD n false = false := by
              cases hLn : L.getD n false with
              | false => rfl
              | true =>
                obtain ⟨e, he, hb, hon⟩ := dirOn_edge hA0 (hAw i o hin' ho hp)
                have := h.shut n oA hA0 hLn e he hb
                rw [hon, hoff] at this
                cases this
            rw [hLn]
            exact hq
          · exact hq _
        rw [if_pos (wanted_of hw hguard)]
        refine .inl (hqt a o w _ _ rfl hops h.mem fun w' hb => ih _ _ _ ?_ hcnt)
        show Inv _ _ _ _ (_root_.cond ((L.setIfInBounds _ true).getD _ false) m' m) _ _ _ _ _
        rw [getD_set hlt, if_neg (Ne.symm hia)]
        have hput := h.put ho hin hd hdN hre (h.mem.step hb)
        rw [upd_ne _ _ hdda] at hput
        exact hput
/-- 'a[i] = x' on a list of one-cell elements, as what it writes. -/
theorem Wr.row {g k cap off sz : Nat} {T e : TypeId} {x y : Operand} {t : Fr} {xs : List Value} {u : Value} (hx : ev t x = .pointer (some ⟨g, off, none⟩)) (hy : ev t y = u)
    (h1 : u.oneCell' = true) (hs : (P.info? T).map (·.size) = some 1) (hr : Repl (.row (.slice (some ⟨g, 0, none⟩) k cap) e sz k xs) (.row (.slice (some ⟨g, 0, none⟩) k cap) e sz k (xs.set off u)) m m') (hn : off < k * sz) :
    Wr P w0 t m m' (.store T x y) := fun a o w K Q ho hd he hm hK => by
  have ho' := hm.ok _ hr.mem
  rcases ho'.2 with ⟨hv, _⟩ | ⟨g', cap', cur, hv, hb, hg', hnc, hcm, hcs, ht⟩
  · cases hv
  · simp only [Value.slice.injEq, Option.some.injEq, Addr.mk.injEq] at hv
    obtain ⟨⟨rfl, _, _⟩, _, rfl⟩ := hv
    have hlt : off < cur.size := by
      have := Nat.mul_le_mul_right sz hnc
      omega
    have main : ∀ w', w' = w.setRow g (cur.setIfInBounds off u) → Mem w0 m' w' := by
      rintro w' rfl
      refine hr.keeps hm ?_ ?_ (fun k hk => .inl hk) (fun k _ hk => setRow_other w g k _ (fun e' => hk (by rw [e']; rfl)))
      · exact hm.below.trans ⟨rfl, rfl, rfl, by simp, fun k hk => setRow_other w g k _ (by omega)⟩
      · refine ⟨by rw [List.length_set]; exact ho'.1, .inr ⟨g, cap, cur.setIfInBounds off u, rfl, hb, setRow_heap w g cur _ e (0, 0) hg', hnc, hcm, by simpa using hcs, ?_⟩⟩
        rw [Array.toList_setIfInBounds, List.take_set, ht]
    have e1 : a.eval x = _ := (he x (by simp [Op.operands])).trans hx
    have e2 : a.eval y = u := (he y (by simp [Op.operands])).trans hy
    have hvc : u.cells = #[u] := by cases u <;> simp_all [Value.cells, Value.oneCell']
    cases hq : P.info? T with
    | none => simp [hq] at hs
    | some i =>
      have hs' : i.size = 1 := by simpa [hq] using hs
      have hz : (sizeOf T).run P w = .ok 1 w := by simp [sizeOf, typeInfo, hq, hs']
      have hst : (storeCells ⟨g, off, none⟩ [u]).run P w = .ok () (w.setRow g (cur.setIfInBounds off u)) := by
        have := run_storeCells_at (P := P) g off e [u] 0 cur w hg' (by simp; omega) (by simp [h1])
        rw [this]
        congr 2
        apply Array.ext'
        rw [Array.toList_setIfInBounds, List.set_eq_take_append_cons_drop]
        simp [hlt]
      have hrun : (execOp a.eval o).run P w = .ok .skip (w.setRow g (cur.setIfInBounds off u)) := by
        obtain ⟨dst, op, ty, pos, aft, gd⟩ := o
        simp only at ho
        subst ho
        simp [execOp, e1, e2, Instr.storeAt, Instr.sureAddr, storeVar, hvc, hz, hst, Sem.run_bind]
      unfold Oper.wp
      rw [hrun]
      show K (a.put o.dst undef) _
      rw [hd]
      exact hK _ (main _ rfl)
end
end Go.Proofs.Ytfmamihoaklogaa.T
