/- Lists that are read: own rows as lists handed in (used by the claims of this seat). -/
import Derived.Test.YtfmamihoaklogaaSl
namespace Go.Proofs.Ytfmamihoaklogaa.T
open Go.RowKit
set_option linter.unusedVariables false

theorem row_arg {w0 w : World} {m : List Itm} {ao : Option Addr} {cp : Nat} {e : TypeId} {k : IntKind} {L : List Nat} (hm : Mem w0 m w) (hb : .row (.slice ao L.length cp) e 1 L.length (ks k L) ∈ m) : argAt k ao L w := by
  intro i hi
  have ho := hm.ok _ hb
  rcases ho.2 with ⟨hv, hn⟩ | ⟨g, cap, cur, hv, hrest⟩
  · omega
  · simp only [Value.slice.injEq] at hv
    obtain ⟨rfl, _, _⟩ := hv
    refine ⟨_, rfl, ?_⟩
    exact ho.cells (g := g) rfl i (.int k ((L[i] : Nat) : Int)) (by simp [ks, hi])
end Go.Proofs.Ytfmamihoaklogaa.T
