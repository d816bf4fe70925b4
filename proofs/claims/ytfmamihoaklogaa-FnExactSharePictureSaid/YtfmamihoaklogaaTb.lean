/- A region whose order is open, with one operation among the drawn ones that makes something new (used by the claims of this seat). -/
import Derived.Test.YtfmamihoaklogaaTd
namespace Go.Proofs.Ytfmamihoaklogaa.T
open Go.RowKit
set_option linter.unusedVariables false
set_option linter.unusedSimpArgs false

/-- An operation that makes one new thing in memory. -/
def NewB (P : Program) (w0 : World) (t : Fr) (m : List Itm) (op : Op) (mk : Nat → Value) (it : Nat → Itm) : Prop :=
  ∀ (a : Act) (o : Oper) (w : World) (K : Act → World → Prop) (Q : Exit → Act → World → Prop), o.op = op → (∀ x ∈ op.operands, a.eval x = ev t x) → Mem w0 m w →
    (∀ b w', Mem w0 (it b :: m) w' → K (a.put o.dst (mk b)) w') → o.wp P a w K Q
/-- As drawOk, but a slot that is read may be written anew behind the drawn operations. -/
def drawOkR1 (ops : Array Oper) (n i : Nat) (o : Oper) : Bool :=
  o.after.toList.all (fun e => !Region.binds .any e || Nat.blt e.on i) &&
  ((match o.dst with
   | some d => (List.range ops.size).all fun j => Nat.beq i j || !dstIs ops j d
   | none => false) &&
  ((slotsOf o.op.operands.toList).all (fun s => (List.range n).all fun j => !dstIs ops j s || dirOn ops i j) &&
  (match o.guard with
   | some (g, _) => dirOn ops i g
   | none => true)))
def drawOkR (ops : Array Oper) (n : Nat) : Bool :=
  (List.range n).all fun i => match ops[i]? with
    | some o => drawOkR1 ops n i o
    | none => false
section
variable {P : Program} {N n : Nat} {w0 : World} {Q : Pst} {ops : Array Oper} {m : List Itm} {K : Fr → Prop}
theorem drawOkR_at (h : drawOkR ops n = true) {i : Nat} {o : Oper} (ho : ops[i]? = some o) (hi : i < n) : drawOkR1 ops n i o = true := by
  have := List.all_eq_true.1 h i (List.mem_range.2 hi)
  rw [ho] at this
  exact this
theorem drawOkR_back (h : drawOkR ops n = true) {i : Nat} {o : Oper} (ho : ops[i]? = some o) (hi : i < n) {e : Edge} (he : e ∈ o.after) (hb : Region.binds .any e = true) : e.on < i := by
  have h1 := drawOkR_at h ho hi
  simp only [drawOkR1, Bool.and_eq_true] at h1
  have := List.all_eq_true.1 h1.1 e (by simpa using he)
  rw [hb] at this
  have h2 : Nat.blt e.on i = true := by simpa only [Bool.not_true, Bool.false_or] using this
  exact Nat.le_of_ble_eq_true h2
theorem drawOkR_dst (h : drawOkR ops n = true) {i : Nat} {o : Oper} (ho : ops[i]? = some o) (hi : i < n) : ∃ d, o.dst = some d ∧ ∀ j p, ops[j]? = some p → p.dst = some d → j = i := by
  have h1 := drawOkR_at h ho hi
  simp only [drawOkR1, Bool.and_eq_true] at h1
  have h2 := h1.2.1
  cases hd : o.dst with
  | none => rw [hd] at h2; cases h2
  | some d =>
    rw [hd] at h2
    refine ⟨d, rfl, fun j p hj hp => ?_⟩
    have h3 := List.all_eq_true.1 h2 j (List.mem_range.2 (Array.getElem?_eq_some_iff.1 hj).1)
    have h4 : dstIs ops j d = true := by simp only [dstIs, hj, hp]; exact Nat.beq_refl d
    rw [h4] at h3
    simp only [Bool.not_true, Bool.or_false] at h3
    exact (beq_nat.1 h3).symm
theorem drawOkR_read (h : drawOkR ops n = true) {i : Nat} {o : Oper} (ho : ops[i]? = some o) (hi : i < n) {s : Nat} (hs : Operand.tmp s ∈ o.op.operands) {j : Nat} {p : Oper} (hj : ops[j]? = some p) (hp : p.dst = some s) (hjn : j < n) : dirOn ops i j = true := by
  have h1 := drawOkR_at h ho hi
  simp only [drawOkR1, Bool.and_eq_true] at h1
  have h2 := List.all_eq_true.1 h1.2.2.1 s (by
    simp only [slotsOf, List.mem_filterMap]
    exact ⟨.tmp s, by simpa using hs, rfl⟩)
  have h3 := List.all_eq_true.1 h2 j (List.mem_range.2 hjn)
  have h4 : dstIs ops j s = true := by simp only [dstIs, hj, hp]; exact Nat.beq_refl s
  rw [h4] at h3
  simpa using h3
theorem drawOkR_guard (h : drawOkR ops n = true) {i : Nat} {o : Oper} (ho : ops[i]? = some o) (hi : i < n) {g : Nat} {u : Bool} (hg : o.guard = some (g, u)) : dirOn ops i g = true := by
  have h1 := drawOkR_at h ho hi
  simp only [drawOkR1, Bool.and_eq_true, hg] at h1
  exact h1.2.2.2
theorem Sq.finR (hok : drawOkR ops n = true) : ∀ (l : List Oper) (b : Nat) (t : Fr), (ops.toList.take n).drop b = l → Sq P N w0 m ops K l t →
    ∃ tF, K tF ∧ (∀ s, (∀ i o, b ≤ i → i < n → ops[i]? = some o → o.dst ≠ some s) → tF s = t s) ∧
      ∀ i o d, b ≤ i → i < n → ops[i]? = some o → o.dst = some d → d < N ∧ ((wants ops tF o = some true ∧ Qt P w0 tF m o.op (tF d)) ∨ (wants ops tF o = some false ∧ tF d = undef))
  | [], b, t, hl, .nil hK => by
    refine ⟨t, hK, fun _ _ => rfl, fun i o d hn hin hi _ => ?_⟩
    have := List.drop_eq_nil_iff.1 hl
    have := (Array.getElem?_eq_some_iff.1 hi).1
    simp at *
    omega
  | o :: l, b, t, hl, hs => by
    have h0 : ((ops.toList.take n).drop b)[0]? = some o := by rw [hl]; rfl
    rw [List.getElem?_drop, Nat.add_zero, List.getElem?_take] at h0
    have hbn : b < n := by
      by_cases h : b < n
      · exact h
      · rw [if_neg h] at h0; cases h0
    rw [if_pos hbn] at h0
    have hon : ops[b]? = some o := by simpa using h0
    have hl' : (ops.toList.take n).drop (b + 1) = l := by
      rw [← List.drop_drop, hl]
      rfl
    obtain ⟨d, hd, hun⟩ := drawOkR_dst hok hon hbn
    have main : ∀ v, Sq P N w0 m ops K l (upd t d v) → d < N → ((wants ops t o = some true ∧ Qt P w0 t m o.op v) ∨ (wants ops t o = some false ∧ v = undef)) → ∃ tF, K tF ∧ (∀ s, (∀ i o, b ≤ i → i < n → ops[i]? = some o → o.dst ≠ some s) → tF s = t s) ∧
      ∀ i o d, b ≤ i → i < n → ops[i]? = some o → o.dst = some d → d < N ∧ ((wants ops tF o = some true ∧ Qt P w0 tF m o.op (tF d)) ∨ (wants ops tF o = some false ∧ tF d = undef)) := by
      intro v hk hdN hv
      obtain ⟨tF, h1, h2, h3⟩ := Sq.finR hok l (b + 1) (upd t d v) hl' hk
      have hself : tF d = v := by
        rw [h2 d (fun i p hi _ hp hpd => by have := hun i p hp hpd; omega), upd_self]
      have hback : ∀ s, (∀ i p, b ≤ i → i < n → ops[i]? = some p → p.dst ≠ some s) → tF s = t s := by
        intro s hs
        have hsd : s ≠ d := fun e => hs b o (Nat.le_refl _) hbn hon (by rw [e]; exact hd)
        rw [h2 s (fun i p hi => hs i p (by omega)), upd_ne _ _ hsd]
      refine ⟨tF, h1, hback, fun i p e hi hin hp he => ?_⟩
      by_cases hib : i = b
      · subst hib
        rw [hon] at hp
        cases hp
        rw [hd] at he
        cases he
        refine ⟨hdN, ?_⟩
        rw [hself]
        have hw : ∀ u, wants ops t o = some u → wants ops tF o = some u := fun u hb => wants_congr hb (by
          intro g u q e hg hq he
          refine (hback e ?_).symm
          intro j r hj hjn hr hre
          obtain ⟨ed, hed, heb, hon2⟩ := dirOn_edge hon (drawOkR_guard hok hon hbn hg)
          have hlt := drawOkR_back hok hon hbn hed heb
          obtain ⟨e', he', hun'⟩ := drawOkR_dst hok hq (by omega)
          rw [he] at he'
          cases he'
          have := hun' j r hr hre
          omega)
        have hq : ∀ v, Qt P w0 t m o.op v → Qt P w0 tF m o.op v := fun v hv => hv.congr (by
          intro x hx
          cases x with
          | tmp s =>
            refine (hback s ?_).symm
            intro j r hj hjn hr hre
            obtain ⟨ed, hed, heb, hon2⟩ := dirOn_edge hon (drawOkR_read hok hon hbn hx hr hre hjn)
            have hlt := drawOkR_back hok hon hbn hed heb
            omega
          | _ => rfl)
        rcases hv with ⟨a, b⟩ | ⟨a, b⟩
        · exact .inl ⟨hw _ a, hq _ b⟩
        · exact .inr ⟨hw _ a, b⟩
      · exact h3 i p e (by omega) hin hp he
    cases hs with
    | run hd' hN hw h k =>
      rw [hd] at hd'
      cases hd'
      exact main _ k (Nat.le_of_ble_eq_true hN) (.inl ⟨hw, h⟩)
    | off hd' hN hw k =>
      rw [hd] at hd'
      cases hd'
      exact main _ k (Nat.le_of_ble_eq_true hN) (.inr ⟨hw, rfl⟩)

theorem ready_someR {L : Array Bool} (hok : drawOkR ops n = true) (hs : L.size = ops.size) (hno : ∀ i, i < n → i ∉ Region.ready .any ops L) : ∀ k i, i ≤ k → i < n → L.getD i false = true := by
  intro k
  induction k with
  | zero =>
    intro i hi hlt
    have hi0 : i = 0 := by omega
    subst hi0
    cases hL : L.getD 0 false with
    | true => rfl
    | false =>
      exfalso
      cases ho : ops[0]? with
      | none =>
        have := List.all_eq_true.1 hok 0 (List.mem_range.2 hlt)
        rw [ho] at this
        cases this
      | some o => exact hno 0 hlt (ready_of hs ho hL fun e he hb => by have := drawOkR_back hok ho hlt he hb; omega)
  | succ k ih =>
    intro i hi hlt
    cases hL : L.getD i false with
    | true => rfl
    | false =>
      exfalso
      cases ho : ops[i]? with
      | none =>
        have := List.all_eq_true.1 hok i (List.mem_range.2 hlt)
        rw [ho] at this
        cases this
      | some o => exact hno i hlt (ready_of hs ho hL fun e he hb => by
          have := drawOkR_back hok ho hlt he hb
          exact ih e.on (by omega) (by omega))
end
section
variable {P : Program} {N : Nat} {w0 : World} {Q : Pst} {ops : Array Oper} {m : List Itm} {n da : Nat}
theorem drawOkR_less (h : drawOkR ops (n + 1) = true) : drawOkR ops n = true := by
  refine List.all_eq_true.2 fun i hi => ?_
  have hi2 := List.mem_range.1 hi
  have h1 := List.all_eq_true.1 h i (List.mem_range.2 (by omega))
  cases ho : ops[i]? with
  | none => rw [ho] at h1; cases h1
  | some o =>
    rw [ho] at h1
    simp only [drawOkR1, Bool.and_eq_true] at h1 ⊢
    refine ⟨h1.1, h1.2.1, List.all_eq_true.2 fun s hs => List.all_eq_true.2 fun j hj => ?_, h1.2.2.2⟩
    exact List.all_eq_true.1 (List.all_eq_true.1 h1.2.2.1 s hs) j (List.mem_range.2 (by have := List.mem_range.1 hj; omega))
structure InvB (P : Program) (N n : Nat) (w0 : World) (ops : Array Oper) (m : List Itm) (da : Nat) (mk : Nat → Value) (it : Nat → Itm) (t tF : Fr) (b : Nat) (L : Array Bool) (a : Act) (w : World) : Prop where
  inv : Inv N (n + 1) w0 ops m t (upd tF da (mk b)) L a w
  blk : L.getD n false = true → Mem w0 (it b :: m) w
theorem Inv.swapN {k : Nat} {t tF tG : Fr} {L : Array Bool} {a : Act} {w : World} (h : Inv N k w0 ops m t tF L a w) (he : ∀ i o d, ops[i]? = some o → o.dst = some d → L.getD i false = true → tF d = tG d) : Inv N k w0 ops m t tG L a w :=
  ⟨h.size, h.asize, h.defers, h.mem, h.low, h.shut, fun i o d ho hd hL => (h.done i o d ho hd hL).trans (he i o d ho hd hL), h.rest⟩
/-- The first n operations turn nothing that was there, the next makes something new and doesn't wait for all of them; the others come up behind them, one by one. -/
theorem W.drawB {id : Nat} {l : List Oper} {t : Fr} {oA : Oper} (n : Nat) (hmx : P.follows .mixedOrders = true) (hok : drawOkR l.toArray (n + 1) = true) (ht : tailOk l.toArray (n + 1) = true) (hn : Nat.ble (n + 1) l.length = true)
    (hA : l[n]? = some oA) (hA2 : oA.dst = some da) (hA3 : oA.guard = none) (hAN : Nat.ble (da + 1) N = true)
    (hs : Sq P N w0 m l.toArray (fun t' => ∃ (mk : Nat → Value) (it : Nat → Itm), NewB P w0 t' m oA.op mk it ∧ ∀ b, Wl P N w0 l.toArray Q (l.drop (n + 1)) (upd t' da (mk b)) (it b :: m)) (l.take n) t) : W P N w0 (.region id l.toArray true) Q t m := fun a w hf hm => by
  have hok' := drawOkR_less hok
  have hns : n + 1 ≤ l.toArray.size := by simpa using Nat.le_of_ble_eq_true hn
  obtain ⟨tF, ⟨mk, it, hnew, hQ⟩, hF1, hF2⟩ := Sq.finR (n := n) hok' (l.take n) 0 t (by simp) hs
  have hA0 : l.toArray[n]? = some oA := by simpa using hA
  have hda : ∀ j p, l.toArray[j]? = some p → p.dst = some da → j = n := by
    obtain ⟨d, hd, hun⟩ := drawOkR_dst hok hA0 (Nat.lt_succ_self n)
    rw [hA2] at hd
    cases hd
    exact hun
  have hF1' : ∀ b s, (∀ (i : Nat) (o : Oper), i < n + 1 → l.toArray[i]? = some o → o.dst ≠ some s) → upd tF da (mk b) s = t s := fun b s hs => by
    rw [upd_ne _ _ (fun e => hs n oA (Nat.lt_succ_self n) hA0 (by rw [e]; exact hA2))]
    exact hF1 s fun i o _ hi => hs i o (by omega)
  refine wp_region_any hmx ?_
  suffices main : ∀ (f : Nat) (b : Nat) (L : Array Bool) (a : Act) (w : World), InvB P N n w0 l.toArray m da mk it t tF b L a w → cnt L.toList ≤ f → wpAny P .any l.toArray (lift N w0 Q) f L a w by
    refine main l.toArray.size 0 _ a _ ⟨⟨by simp, hf.size, hf.defers, hm.drew, ?_, ?_, ?_, ?_⟩, ?_⟩ ?_
    · intro i _
      by_cases hlt : i < l.length <;> simp [Array.getElem?_replicate, hlt]
    · intro i o ho hi
      have hlt' : i < l.length := by simpa using (Array.getElem?_eq_some_iff.1 ho).1
      simp [Array.getElem?_replicate, hlt'] at hi
    · intro i o d ho hd hi
      have hlt' : i < l.length := by simpa using (Array.getElem?_eq_some_iff.1 ho).1
      simp [Array.getElem?_replicate, hlt'] at hi
    · intro s _
      exact hf.get s
    · intro hi
      have hlt' : n < l.length := by simpa using (Array.getElem?_eq_some_iff.1 hA0).1
      simp [Array.getElem?_replicate, hlt'] at hi
    · simp only [cnt]
      exact Nat.le_trans (List.length_filter_le _ _) (by simp)
  have done : ∀ (f b : Nat) (L : Array Bool) (a : Act) (w : World), InvB P N n w0 l.toArray m da mk it t tF b L a w → cnt L.toList ≤ f → (∀ i, i < n + 1 → L.getD i false = true) → wpAny P .any l.toArray (lift N w0 Q) f L a w := by
    intro f b L a w h hc hall
    have hfit : Fits N a (upd tF da (mk b)) := ⟨h.inv.asize, fun s => by
      by_cases hx : ∃ (j : Nat) (p : Oper), j < n + 1 ∧ l.toArray[j]? = some p ∧ p.dst = some s
      · obtain ⟨j, p, hjn, hj, hp⟩ := hx
        exact h.inv.done j p s hj hp (hall j hjn)
      · have hno : ∀ (j : Nat) (p : Oper), j < n + 1 → l.toArray[j]? = some p → p.dst ≠ some s := fun j p hjn hj hp => hx ⟨j, p, hjn, hj, hp⟩
        rw [h.inv.rest s fun j p hj hL => hno j p (h.inv.lt hL) hj, hF1' b s hno], h.inv.defers⟩
    refine tail_run ht _ (n + 1) f L a w (Nat.le_refl _) rfl h.inv.size hall h.inv.low ?_ (by
      have := hQ b a w hfit (h.blk (hall n (Nat.lt_succ_self n)))
      simpa using this)
    have := cnt_from L.toList (n + 1) (fun i hi => by have := h.inv.low i hi; simpa [Array.getD_eq_getD_getElem?, List.getD_eq_getElem?_getD] using this) (fun i hi => by have := hall i hi; simpa [Array.getD_eq_getD_getElem?, List.getD_eq_getElem?_getD] using this)
    simp only [Array.length_toList, h.inv.size] at this
    simp at this ⊢
    omega
  intro f
  induction f with
  | zero =>
    intro b L a w h hc
    refine done 0 b L a w h hc fun i hi => ?_
    have := cnt_zero (Nat.le_zero.1 hc) i (by have := h.inv.size; simp at this ⊢; simp at hns; omega)
    rw [Array.getElem?_toList] at this
    simp [this]
  | succ f ih =>
    intro b L a w h hc
    by_cases hall : ∀ i, i < n + 1 → L.getD i false = true
    · exact done (f + 1) b L a w h hc hall
    · refine ⟨fun hr => absurd (fun i hi => ready_someR hok h.inv.size (fun j _ hj => by rw [hr] at hj; cases hj) i i (Nat.le_refl _) hi) hall, fun i hi => ?_⟩
      have hin : i < n + 1 := by
        by_cases hlt : i < n + 1
        · exact hlt
        · exact absurd (tail_all ht h.inv (by omega) hi).2 hall
      obtain ⟨h0, o, ho, hre⟩ := mem_ready.1 hi
      have hoff := ready_off hi
      have hlt : i < L.size := by rw [h.inv.size]; exact (Array.getElem?_eq_some_iff.1 ho).1
      have hLi : L.toList[i]? = some false := by
        rw [Array.getElem?_toList, Array.getElem?_eq_getElem hlt]
        rw [Array.getD_eq_getD_getElem?, Array.getElem?_eq_getElem hlt] at hoff
        simpa using hoff
      have hcnt : cnt (L.setIfInBounds i true).toList ≤ f := by
        have := cnt_set _ _ hLi
        rw [Array.toList_setIfInBounds]
        omega
      have hreads : ∀ s, (∀ j p, j < n + 1 → l.toArray[j]? = some p → p.dst = some s → dirOn l.toArray i j = true) → a.tmps.getD s undef = upd tF da (mk b) s := fun s hs => by
        by_cases hx : ∃ (j : Nat) (p : Oper), j < n + 1 ∧ l.toArray[j]? = some p ∧ p.dst = some s
        · obtain ⟨j, p, hjn, hj, hp⟩ := hx
          obtain ⟨e, he, hb, hon⟩ := dirOn_edge ho (hs j p hjn hj hp)
          have := hre e he hb
          rw [hon] at this
          exact h.inv.done j p s hj hp this
        · have hno : ∀ (j : Nat) (p : Oper), j < n + 1 → l.toArray[j]? = some p → p.dst ≠ some s := fun j p hjn hj hp => hx ⟨j, p, hjn, hj, hp⟩
          rw [h.inv.rest s fun j p hj hL => hno j p (h.inv.lt hL) hj, hF1' b s hno]
      -- what an operation before n + 1 reads isn't the new thing
      have hnd : ∀ s, (∀ j p, j < n + 1 → l.toArray[j]? = some p → p.dst = some s → dirOn l.toArray i j = true) → s ≠ da := fun s hs e => by
        obtain ⟨ed, hed, heb, hon⟩ := dirOn_edge ho (hs n oA (Nat.lt_succ_self n) hA0 (by rw [e]; exact hA2))
        have := drawOkR_back hok ho hin hed heb
        omega
      have hops : ∀ x ∈ o.op.operands, a.eval x = ev tF x := fun x hx => by
        cases x with
        | tmp s =>
          have h1 := fun j p hjn hj hp => drawOkR_read hok ho hin hx (j := j) (p := p) hj hp hjn
          show a.tmps.getD s undef = tF s
          rw [hreads s h1, upd_ne _ _ (hnd s h1)]
        | _ => rfl
      unfold wpOp
      rw [ho]
      simp only
      by_cases hia : i = n
      · subst hia
        rw [hA0] at ho
        cases ho
        have hwant : Region.wanted oA (yielded l.toArray a.tmps) = true := by simp [Region.wanted, hA3]
        rw [if_pos hwant]
        refine .inl (hnew a oA w _ _ rfl hops h.inv.mem fun b' w' hm' => ?_)
        have hsw := h.inv.swapN (tG := upd tF da (mk b')) fun j p d hj hp hL => by
          have hne2 : d ≠ da := fun e => by
            have := hda j p hj (by rw [← e]; exact hp)
            rw [this, hoff] at hL
            cases hL
          rw [upd_ne _ _ hne2, upd_ne _ _ hne2]
        have hput := hsw.put hA0 hin hA2 (Nat.le_of_ble_eq_true hAN) hre (hm'.sub (List.sublist_cons_self _ _))
        rw [upd_self] at hput
        exact ih b' _ _ _ ⟨hput, fun _ => hm'⟩ hcnt
      · have hin' : i < n := by omega
        obtain ⟨d, hd, _⟩ := drawOkR_dst hok' ho hin'
        obtain ⟨hdN, hcase⟩ := hF2 i o d (Nat.zero_le _) hin' ho hd
        have hdda : d ≠ da := fun e => hia (hda i o ho (by rw [← e]; exact hd))
        have hguard : ∀ g u p e, o.guard = some (g, u) → l.toArray[g]? = some p → p.dst = some e → a.tmps.getD e undef = tF e := fun g u p e hg hp he => by
          have hdir := drawOkR_guard hok ho hin hg
          obtain ⟨ed, hed, heb, hon⟩ := dirOn_edge ho hdir
          have := drawOkR_back hok ho hin hed heb
          obtain ⟨e', he', hun⟩ := drawOkR_dst hok hp (by omega)
          rw [he] at he'
          cases he'
          have h1 : ∀ j q, j < n + 1 → l.toArray[j]? = some q → q.dst = some e → dirOn l.toArray i j = true := fun j q _ hj hq => by
            rw [hun j q hj hq]
            exact hdir
          rw [hreads e h1, upd_ne _ _ (hnd e h1)]
        have keep : ∀ w', Below w.heap.size w w' → InvB P N n w0 l.toArray m da mk it t tF b (L.setIfInBounds i true) (a.put o.dst (tF d)) w' := fun w' hb => by
          have hput := h.inv.put ho hin hd hdN hre (h.inv.mem.step hb)
          rw [upd_ne _ _ hdda] at hput
          refine ⟨hput, fun hL => ?_⟩
          rw [getD_set hlt, if_neg (Ne.symm hia)] at hL
          exact (h.blk hL).step hb
        rcases hcase with ⟨hw, hq⟩ | ⟨hw, hu⟩
        · rw [if_pos (wanted_of hw hguard)]
          exact .inl (hq a o w _ _ rfl hops h.inv.mem fun w' hb => ih b _ _ _ (keep w' hb) hcnt)
        · rw [if_neg (by rw [wanted_of hw hguard]; simp)]
          have := keep w (Below.refl _ _)
          rw [hu] at this
          exact ih b _ _ _ this hcnt
theorem NewB.mkS {T e : TypeId} {t : Fr} {sz len : Nat} {z : Value} {ps : Array (Nat × Operand)} {cells : Array Value}
    (hu : P.underlying T = some (.slice e)) (hs : (P.info? e).map (·.size) = some sz) (hz : ∀ w, (zeroValue e).run P w = .ok z w) (hb : Nat.ble (len * sz) 16777216 = true)
    (hf : Instr.fill (fun i => some (i * sz, sz)) ((Array.range (len * sz)).map (z.cells[· % z.cells.size]!)) (ps.toList.map fun q => (q.1, ev t q.2)) = some cells) :
    NewB P w0 t m (.buildSlice T len ps) (fun b => .slice (some ⟨b, 0, none⟩) len len) (fun b => .blk b e cells) := fun a o w K Q ho hx hm hK => by
  have hps : (ps.map fun (i, x) => (i, a.eval x)).toList = ps.toList.map fun q => (q.1, ev t q.2) := by
    rw [Array.toList_map]
    refine List.map_congr_left fun q hq => ?_
    have := hx q.2 (by simp only [Op.operands]; exact List.mem_toArray.2 (List.mem_map.2 ⟨q, hq, rfl⟩))
    simp [this]
  cases hq : P.info? e with
  | none => simp [hq] at hs
  | some i =>
    have hs' : i.size = sz := by simpa [hq] using hs
    have hsz : (sizeOf e).run P w = .ok sz w := by simp [sizeOf, typeInfo, hq, hs']
    have hbig : ¬ len * sz > 2 ^ 24 := by have := Nat.le_of_ble_eq_true hb; omega
    have hrun : (execOp a.eval o).run P w = .ok (.value (.slice (some ⟨w.heap.size, 0, none⟩) len len)) (w.alloc (.cells cells e)) := by
      obtain ⟨dst, op, ty, pos, aft, g⟩ := o
      simp only at ho
      subst ho
      have hr0 : Array.range 0 = #[] := rfl
      by_cases h0 : len * sz = 0
      · have hf' : Instr.fill (fun i => some (i * sz, sz)) #[] (ps.map fun (i, x) => (i, a.eval x)).toList = some cells := by
          rw [hps]
          simpa [h0, hr0] using hf
        simp only [Array.toList_map] at hf'
        simp [execOp, Instr.buildSlice, run_underlying hu, Sem.run_bind, hsz, hbig, h0, hr0, hf', newRow, newObj]
        rfl
      · have hf' := hf
        rw [← hps] at hf'
        simp only [Array.toList_map] at hf'
        simp [execOp, Instr.buildSlice, run_underlying hu, Sem.run_bind, hsz, hbig, h0, hz, hf', newRow, newObj]
        rfl
    unfold Oper.wp
    rw [hrun]
    exact hK _ _ (hm.alloc e cells)
end
end Go.Proofs.Ytfmamihoaklogaa.T
