/- Lists of bytes that become texts (used by the claims of this seat). -/
import Derived.Test.YtagjdgglpphinaaFa
import Derived.Test.YtagjdgglpphinaaTh
import Derived.Laws.BytesArg
namespace Go.Proofs.Ytagjdgglpphinaa.T
open Go.RowKit
set_option linter.unusedVariables false

/-- A list of bytes, as cells. -/
def u8s (L : List Nat) : List Value := L.map fun (k : Nat) => Value.int .u8 (k : Int)
theorem u8s_snoc (L : List Nat) (k : Nat) : u8s (L ++ [k]) = u8s L ++ [.int .u8 (k : Int)] := by simp [u8s]
theorem u8s_get (L : List Nat) {i : Nat} (hi : i < L.length) : (u8s L)[0 + ((i : Nat) : Int).toNat * 1]? = some (.int .u8 ((L[i] : Nat) : Int)) := by
  simp [u8s, hi]
abbrev bRow (e : TypeId) (v : Value) (L : List Nat) : Itm := .row v e 1 L.length (u8s L)
theorem bRow_snoc (e : TypeId) (v : Value) (L : List Nat) (k : Nat) : bRow e v (L ++ [k]) = .row v e 1 (L.length + 1) (u8s L ++ (#[Value.int .u8 (k : Int)]).toList) := by
  unfold bRow
  rw [u8s_snoc, List.length_append]
  rfl
/-- The text of bytes. -/
def strB (L : List Nat) : ByteArray := strOfNums (L.map Int.ofNat)
section
variable {P : Program} {N : Nat} {w0 : World} {Q : Pst} {t : Fr} {m m' : List Itm} {ops : Array Oper} {l : List Oper} {x y : Operand} {T T' e : TypeId}
theorem Y.toStr {v : Value} {L : List Nat} (hx : ev t x = v) (hu : P.underlying T = some (.slice e)) (he : P.underlying e = some (.int .u8)) (hd : P.underlying T' = some .string) (hb : bRow e v L ∈ m) : Yv P w0 t m (.convert T T' x) (.string (strB L)) := Yv.mk fun ρ _ _ _ _ _ w he' hm => by
  have h1 := he' x (by simp [Op.operands])
  have ho := hm.ok _ hb
  rcases ho.2 with ⟨hv, hn⟩ | ⟨g, cap, cur, hv, hrest⟩
  · have hL : L = [] := List.eq_nil_of_length_eq_zero hn
    subst hL
    have := run_convert_bytes_nil (P := P) w T e hu he 0 0 T' hd
    simp [execOp, h1, hx, hv, this]
    rfl
  · have hcells : ∀ i, i < L.length → w.cell? ⟨g, 0 + i, none⟩ = some (.int .u8 ((L.map Int.ofNat).getD i 0)) := fun i hi => by
      have := ho.cells (g := g) (by rw [hv]; rfl) i (.int .u8 ((L[i] : Nat) : Int)) (by simp [u8s, hi])
      rw [Addr.add_lit] at this
      rw [this]
      simp [List.getD, hi]
    have := run_convert_bytes_arg (P := P) w T e hu he g 0 L.length cap (L.map Int.ofNat) (by simp) hcells T' hd
    simp [execOp, h1, hx, hv, this]
    rfl
end
end Go.Proofs.Ytagjdgglpphinaa.T
