/- Elements copied into a list, in a region whose order is open (used by the claims of this seat). -/
import Derived.Test.YtfmamihoaklogaaLl
import Derived.Test.YtfmamihoaklogaaTn
namespace Go.Proofs.Ytfmamihoaklogaa.T
open Go.RowKit
set_option linter.unusedVariables false
set_option linter.unusedSimpArgs false
section
variable {P : Program} {N : Nat} {w0 : World} {t : Fr} {m m' : List Itm} {x y : Operand} {T T2 e : TypeId}
theorem WrV.copyRow {g od dLen dCap sLen sCap n cap sz k : Nat} {a : Addr} {xs cs : List Value}
    (hu : P.underlying T = some (.slice e)) (hs : (P.info? e).map (·.size) = some sz) (hx : ev t x = .slice (some ⟨g, od, none⟩) dLen dCap) (hy : ev t y = .slice (some a) sLen sCap) (hk : Nat.min sLen dLen = k) (hcs : cs.length = k * sz)
    (hsrc : ∀ w, Mem w0 m w → ∀ j v, cs[j]? = some v → w.cell? (a.add j) = some v) (h1 : ∀ v ∈ cs, v.oneCell' = true) (hfit : od + cs.length ≤ n * sz)
    (hr : Repl (.row (.slice (some ⟨g, 0, none⟩) n cap) e sz n xs) (.row (.slice (some ⟨g, 0, none⟩) n cap) e sz n (xs.take od ++ cs ++ xs.drop (od + cs.length))) m m') :
    WrV P w0 t m m' (.call { callee := .builtin .copy, args := #[x, y], argTypes := #[T, T2] }) (.int .i64 (k : Int)) := fun ac o w K Q ho he hm hK => by
  have ho' := hm.ok _ hr.mem
  have hlx : xs.length = n * sz := ho'.1
  rcases ho'.2 with ⟨hv, _⟩ | ⟨g', cap', cur, hv, hb, hg', hnc, hcm, hcsz, ht⟩
  · cases hv
  · simp only [Value.slice.injEq, Option.some.injEq, Addr.mk.injEq] at hv
    obtain ⟨⟨rfl, _, _⟩, _, rfl⟩ := hv
    have hfc : n * sz ≤ cur.size := by
      rw [hcsz]
      exact Nat.mul_le_mul_right sz hnc
    have main : ∀ w', w' = w.setRow g (cur.toList.take od ++ cs ++ cur.toList.drop (od + cs.length)).toArray → Mem w0 m' w' := by
      rintro w' rfl
      refine hr.keeps hm ?_ ?_ (fun k hk => .inl hk) (fun k _ hk => setRow_other w g k _ (fun e' => hk (by rw [e']; rfl)))
      · exact hm.below.trans ⟨rfl, rfl, rfl, by simp, fun k hk => setRow_other w g k _ (by omega)⟩
      · refine ⟨by simp; omega, .inr ⟨g, cap, _, rfl, hb, setRow_heap w g cur _ e (0, 0) hg', hnc, hcm, by simp; omega, ?_⟩⟩
        have hcl : n * sz ≤ cur.toList.length := by simpa using hfc
        rw [List.toList_toArray, take_seg hcl hfit, ht]
    have e1 : ac.eval x = _ := (he x (by simp [Op.operands, Call.operands])).trans hx
    have e2 : ac.eval y = _ := (he y (by simp [Op.operands, Call.operands])).trans hy
    have hl := run_loadCells_list (P := P) w a cs (hsrc w hm)
    have hst := run_storeCells_at P g od e cs 0 cur w hg' (by omega) h1
    cases hq : P.info? e with
    | none => simp [hq] at hs
    | some i =>
      have hi : i.size = sz := by simpa [hq] using hs
      have hrc : (Builtin.copy_ #[T, T2] o.type #[.slice (some ⟨g, od, none⟩) dLen dCap, .slice (some a) sLen sCap]).run P w = .ok (.int .i64 (k : Int)) (w.setRow g (cur.toList.take od ++ cs ++ cur.toList.drop (od + cs.length)).toArray) := by
        have hk' : min sLen dLen = k := hk
        simp [Builtin.copy_, run_underlying hu, Builtin.lenOf, Builtin.firstCells, sizeOf, typeInfo, hq, hi, hk', ← hcs, hl, hst, goInt]
      have hrun : (execOp ac.eval o).run P w = .ok (.value (.int .i64 (k : Int))) (w.setRow g (cur.toList.take od ++ cs ++ cur.toList.drop (od + cs.length)).toArray) := by
        obtain ⟨dst, op, ty, pos, aft, gd⟩ := o
        simp only at ho
        subst ho
        simp [execOp, resolve, invoke, builtin, e1, e2, hrc, Sem.run_bind]
      unfold Oper.wp
      rw [hrun]
      exact hK _ (main _ rfl)
end
end Go.Proofs.Ytfmamihoaklogaa.T
