/- Texts as numbers (used by the claims of this seat). -/
import Derived.Test.YtfmamihoaklogaaTh
namespace Go.Proofs.Ytfmamihoaklogaa.T
open Go.RowKit
set_option linter.unusedVariables false

/-- The i-th byte of a text, 0 behind its end. -/
def ch (s : ByteArray) (i : Nat) : Nat := ((s[i]?).getD 0).toNat
theorem ch_lt (s : ByteArray) (i : Nat) : ch s i < 256 := UInt8.toNat_lt _
section
variable {P : Program} {w0 : World} {t : Fr} {m : List Itm} {x y : Operand} {T T' e : TypeId}
theorem Y.indexCh {s : ByteArray} {i : Nat} {k : IntKind} (hx : ev t x = .string s) (hy : ev t y = .int k (i : Int)) (hu : P.underlying T = some .string) (hi : i < s.size) : Yv P w0 t m (.index T x y) (.int .u8 ((ch s i : Nat) : Int)) := by
  have hb : s[i]? = some s[i] := getElem?_pos s i hi
  have := Y.indexS (P := P) (w0 := w0) (m := m) hx hy hu hb
  have e : ((s[i]).toNat : Nat) = ch s i := by
    unfold ch
    rw [hb]
    rfl
  rwa [e] at this
end
end Go.Proofs.Ytfmamihoaklogaa.T
