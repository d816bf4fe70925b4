/- A small logic of frames and blocks over the kit's rules of walking (used by the claims of this seat). -/
import Derived.WalkKit
import Derived.Orders
import Derived.Deep.Draws
import Derived.Test.YtfmamihoaklogaaMa
namespace Go.Proofs.Ytfmamihoaklogaa.T
open Go.RowKit
set_option linter.unusedVariables false
set_option linter.unusedSimpArgs false

/-! ### Frames -/
abbrev Fr := Nat → Value
def upd (t : Fr) (d : Nat) (v : Value) : Fr := fun n => cond (Nat.beq n d) v (t n)
def fr0 (l : List Value) : Fr := fun n => l.getD n undef
def ev (t : Fr) : Operand → Value
  | .tmp n => t n
  | .const v => v
  | .global g => .pointer (some ⟨g, 0, none⟩)
  | .func f => .func (.func f) #[] #[]

structure Fits (N : Nat) (a : Act) (t : Fr) : Prop where
  size : a.tmps.size = N
  get : ∀ n, a.tmps.getD n undef = t n
  defers : a.defers = []

section
variable {N : Nat} {a : Act} {t : Fr}
theorem Fits.eval (h : Fits N a t) (x : Operand) : a.eval x = ev t x := by
  cases x with
  | tmp n => exact h.get n
  | _ => rfl
theorem Fits.evals (h : Fits N a t) (xs : Array Operand) : xs.map a.eval = xs.map (ev t) := by
  congr 1; funext x; exact h.eval x
theorem upd_self (t : Fr) (d : Nat) (v : Value) : upd t d v d = v := by simp [upd]
theorem upd_ne (t : Fr) {d n : Nat} (v : Value) (h : n ≠ d) : upd t d v n = t n := by
  have : Nat.beq n d = false := by
    cases hh : Nat.beq n d
    · rfl
    · exact absurd (Nat.eq_of_beq_eq_true hh) h
  simp [upd, this]
theorem Fits.put (h : Fits N a t) {d : Nat} (hd : d < N) (v : Value) : Fits N (a.put (some d) v) (upd t d v) := by
  refine ⟨by simp [Act.put, h.size], fun n => ?_, h.defers⟩
  by_cases e : n = d
  · subst e
    rw [upd_self]
    simp [Act.put, h.size, hd]
  · rw [upd_ne _ _ e, ← h.get n]
    have : (a.tmps.setIfInBounds d v)[n]? = a.tmps[n]? := Array.getElem?_setIfInBounds_ne (Ne.symm e)
    simp [Act.put, this]
end

/-! ### Items of memory -/
inductive Itm where
  | blk (b : Nat) (T : TypeId) (cs : Array Value)
  | row (v : Value) (e : TypeId) (sz n : Nat) (xs : List Value)
def Itm.foot : Itm → Option Nat
  | .blk b _ _ => some b
  | .row v _ _ _ _ => v.ownBlock
def Itm.ok (B : Nat) (w : World) : Itm → Prop
  | .blk b T cs => B ≤ b ∧ w.heap[b]? = some (.cells cs T (0, 0))
  | .row v e sz n xs => w.ownsRow B e sz v n xs
def apart (x y : Itm) : Prop := ∀ k, x.foot = some k → y.foot ≠ some k

section
variable {B : Nat} {w w' : World} {x : Itm}
theorem Itm.lt (h : x.ok B w) {k : Nat} (hk : x.foot = some k) : B ≤ k ∧ k < w.heap.size := by
  cases x with
  | blk b T cs =>
    simp only [Itm.foot, Option.some.injEq] at hk
    subst hk
    exact ⟨h.1, (Array.getElem?_eq_some_iff.1 h.2).1⟩
  | row v e sz n xs => exact World.ownsRow.lt h k hk
theorem Itm.move (h : x.ok B w) (hm : ∀ k, x.foot = some k → w'.heap[k]? = w.heap[k]?) : x.ok B w' := by
  cases x with
  | blk b T cs => exact ⟨h.1, (hm b rfl).trans h.2⟩
  | row v e sz n xs =>
    refine ⟨h.1, ?_⟩
    rcases h.2 with hn | ⟨g, cap, cur, rfl, hb, hgg, rest⟩
    · exact .inl hn
    · exact .inr ⟨g, cap, cur, rfl, hb, (hm g rfl).trans hgg, rest⟩
theorem Itm.raise {B' : Nat} (h : x.ok B w) (hB : ∀ k, x.foot = some k → B' ≤ k) : x.ok B' w := by
  cases x with
  | blk b T cs => exact ⟨hB b rfl, h.2⟩
  | row v e sz n xs =>
    refine ⟨h.1, ?_⟩
    rcases h.2 with hn | ⟨g, cap, cur, rfl, hb, rest⟩
    · exact .inl hn
    · exact .inr ⟨g, cap, cur, rfl, hB g rfl, rest⟩
theorem Itm.lower {B' : Nat} (h : x.ok B w) (hB : B' ≤ B) : x.ok B' w := Itm.raise h fun _ hk => Nat.le_trans hB (Itm.lt h hk).1
end

structure Mem (w0 : World) (m : List Itm) (w : World) : Prop where
  below : Below w0.heap.size w0 w
  ok : ∀ x ∈ m, x.ok w0.heap.size w
  apart : m.Pairwise apart

section
variable {w0 w w' : World} {m m' : List Itm}
theorem Mem.start (w : World) : Mem w [] w := ⟨Below.refl _ _, (fun _ h => by cases h), .nil⟩
theorem Mem.base (h : Mem w0 m w) : w0.heap.size ≤ w.heap.size := h.below.size
/-- What was there stays. -/
theorem Mem.step (h : Mem w0 m w) (hb : Below w.heap.size w w') : Mem w0 m w' :=
  ⟨h.below.trans (hb.mono h.base), fun x hx => Itm.move (h.ok x hx) fun k hk => hb.block k (Itm.lt (h.ok x hx) hk).2, h.apart⟩
theorem Mem.drew (h : Mem w0 m w) : Mem w0 m w.drew := h.step (Below.refl _ _).drew
theorem Mem.sub (h : Mem w0 m w) (hs : List.Sublist m' m) : Mem w0 m' w := ⟨h.below, fun x hx => h.ok x (hs.subset hx), h.apart.sublist hs⟩
theorem Mem.cons (h : Mem w0 m w) {x : Itm} (hx : x.ok w.heap.size w') (hb : Below w.heap.size w w') : Mem w0 (x :: m) w' := by
  have h' := h.step hb
  refine ⟨h'.below, fun y hy => ?_, .cons (fun y hy k hk hk' => ?_) h'.apart⟩
  · rcases List.mem_cons.1 hy with rfl | hy
    · exact Itm.lower hx h.base
    · exact h'.ok y hy
  · have h1 := (Itm.lt hx hk).1
    have h2 := (Itm.lt (h.ok y hy) hk').2
    omega
theorem Mem.alloc (h : Mem w0 m w) (T : TypeId) (cs : Array Value) : Mem w0 (.blk w.heap.size T cs :: m) (w.alloc (.cells cs T)) :=
  h.cons ⟨Nat.le_refl _, heap_alloc_new w _⟩ ((Below.refl _ _).alloc (Nat.le_refl _) _)
end

/-- One item in another's place. -/
inductive Repl (x y : Itm) : List Itm → List Itm → Prop where
  | here (r : List Itm) : Repl x y (x :: r) (y :: r)
  | there (z : Itm) {r r' : List Itm} : Repl x y r r' → Repl x y (z :: r) (z :: r')

theorem Repl.mem {x y : Itm} {m m' : List Itm} (h : Repl x y m m') : x ∈ m := by
  induction h with
  | here r => exact .head _
  | there z _ ih => exact .tail _ ih
theorem Repl.mem' {x y z : Itm} {m m' : List Itm} (h : Repl x y m m') (hz : z ∈ m') : z = y ∨ z ∈ m := by
  induction h with
  | here r =>
    rcases List.mem_cons.1 hz with rfl | hz
    · exact .inl rfl
    · exact .inr (.tail _ hz)
  | there u _ ih =>
    rcases List.mem_cons.1 hz with rfl | hz
    · exact .inr (.head _)
    · exact (ih hz).imp id (.tail _)
/-- The item y takes x's place; its block is x's, or a new one; what else there is stands as it did. -/
theorem Repl.keeps {x y : Itm} {m m' : List Itm} {w0 w w' : World} (h : Repl x y m m') : Mem w0 m w → Below w0.heap.size w0 w' → y.ok w0.heap.size w' →
    (∀ k, y.foot = some k → x.foot = some k ∨ w.heap.size ≤ k) → (∀ k, k < w.heap.size → x.foot ≠ some k → w'.heap[k]? = w.heap[k]?) → Mem w0 m' w' := by
  intro hm hb hy hf hk
  refine ⟨hb, ?_, ?_⟩
  · have ha := hm.apart
    have ho := hm.ok
    clear hm
    induction h with
    | here r =>
      intro z hz
      rcases List.mem_cons.1 hz with rfl | hz
      · exact hy
      · have := List.rel_of_pairwise_cons ha hz
        exact Itm.move (ho z (.tail _ hz)) fun k hkz => hk k (Itm.lt (ho z (.tail _ hz)) hkz).2 fun hx => this k hx hkz
    | there u hr ih =>
      intro z hz
      rcases List.mem_cons.1 hz with rfl | hz
      · have hxr := hr.mem
        have := List.rel_of_pairwise_cons ha hxr
        exact Itm.move (ho z (.head _)) fun k hkz => hk k (Itm.lt (ho z (.head _)) hkz).2 fun hx => this k hkz hx
      · exact ih (List.Pairwise.of_cons ha) (fun x hx => ho x (.tail _ hx)) z hz
  · have ha := hm.apart
    have ho := hm.ok
    clear hm hk
    induction h with
    | here r =>
      refine .cons (fun z hz k hky hkz => ?_) (List.Pairwise.of_cons ha)
      rcases hf k hky with hx | hx
      · exact List.rel_of_pairwise_cons ha hz k hx hkz
      · have := (Itm.lt (ho z (.tail _ hz)) hkz).2
        omega
    | there u hr ih =>
      refine .cons (fun z hz k hku hkz => ?_) (ih (List.Pairwise.of_cons ha) fun x hx => ho x (.tail _ hx))
      rcases hr.mem' hz with rfl | hz'
      · rcases hf k hkz with hx | hx
        · exact List.rel_of_pairwise_cons ha hr.mem k hku hx
        · have := (Itm.lt (ho u (.head _)) hku).2
          omega
      · exact List.rel_of_pairwise_cons ha hz' k hku hkz

end Go.Proofs.Ytfmamihoaklogaa.T
