/- The rules of steps, with the value looked for behind the rule's own match (used by the claims of this seat). -/
import Derived.Test.YtfmamihoaklogaaTd
namespace Go.Proofs.Ytfmamihoaklogaa.T
open Go.RowKit
set_option linter.unusedVariables false

section
variable {P : Program} {N : Nat} {w0 : World} {Q : Pst} {ops : Array Oper} {m : List Itm} {K : Fr → Prop} {o : Oper} {d : Nat} {l : List Oper} {t : Fr}
theorem Wl.ygx (hd : o.dst = some d) (hN : Nat.ble (d + 1) N = true) (hw : wants ops t o = some true) (h : ∃ v, Yv P w0 t m o.op v ∧ Wl P N w0 ops Q l (upd t d v) m) : Wl P N w0 ops Q (o :: l) t m :=
  h.elim fun _ ⟨hy, hk⟩ => Wl.yg hd hN hw hy hk
theorem Sq.runx (hd : o.dst = some d) (hN : Nat.ble (d + 1) N = true) (hw : wants ops t o = some true) (h : ∃ v, Yv P w0 t m o.op v ∧ Sq P N w0 m ops K l (upd t d v)) : Sq P N w0 m ops K (o :: l) t :=
  h.elim fun _ ⟨hy, hk⟩ => .run hd hN hw hy.qt hk
theorem SqA.runx (hd : o.dst = some d) (hN : Nat.ble (d + 1) N = true) (hw : wants ops t o = some true) (h : ∃ v, Yv P w0 t m o.op v ∧ SqA P N w0 m ops K l (upd t d v)) : SqA P N w0 m ops K (o :: l) t :=
  h.elim fun _ ⟨hy, hk⟩ => .run hd hN hw hy.qt hk
end
end Go.Proofs.Ytfmamihoaklogaa.T
