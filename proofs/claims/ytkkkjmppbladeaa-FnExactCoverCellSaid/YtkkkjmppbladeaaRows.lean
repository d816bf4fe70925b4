/-
  No cell of these rows narrows 'for every input' (looked for: loops, veiled, ifaces, maps, wideKeys, modest, calm, conditions, laid).
  DERIVED. THE GIVEN ROWS OF THIS SEAT. 6 by the template 'for every input the law returns true; each argument reads behind the call as it read before'; 0 by the template 'total and deterministic' (their statements: YtkkkjmppbladeaaTotals.lean).
  GIVEN WITH THE SEED: the statements are not yours to turn. If you find one false, say at which input.
  Laid BY PROGRAM, IN A SANDBOX (cutbox-rows.mjs): the forced cells as the released guide's own fill.sh prints them over the translation 9ca7ecdea23ed9da… (all of the seat's roots in one cut). By AI agents, Wed Nov 11 2026. No macro, syntax, notation, axiom, sorry.
-/
import Derived.Test.YtkkkjmppbladeaaChecked
import GoSem.Claim
import GoSem.ClaimJoined
import GoSem.ClaimMapViews
import Derived.JoinedTies
import Derived.KernelRfl
namespace Go.Proofs.Ytkkkjmppbladeaa
/- THE CELL 'sum', in the pinned program and in every row, IS THE sha256 OF THE DUMP (.gsa) THAT YtkkkjmppbladeaaProg.lean LOADS. Nothing in Lean hashes anything: it is a label: what it is worth is what the hold of that sum in a sandbox is worth. -/
noncomputable def Try.pinned : Pinned := { name := "ytkkkjmppbladeaa", sum := "9ca7ecdea23ed9da85eac680c3ddfe52cf2e738124816b53fc7decf0cad2e061", checked := Try.checked }
namespace Rows
def none {H : Type} : Left H := { results := [], args := [] }

/-- 'laws.FnExactColourName': WHATEVER THE INPUT: true; the input reads as it did. -/
def fnExactColourNameSpec : ChangeSpec := { name := "fnExactColourName", fn := fun _ => fun
  | [d] => { results := [.lit (.bool true)], args := [d] }
  | _ => none }
def fnExactColourNameRow : OpenClaim := { program := "ytkkkjmppbladeaa", sum := "9ca7ecdea23ed9da85eac680c3ddfe52cf2e738124816b53fc7decf0cad2e061", func := "loop.example/g01312/laws.FnExactColourName", spec := "fnExactColourName", apart := false }
def FnExactColourNameSaid : Prop := fnExactColourNameRow.holds Try.pinned (OpenSpec.ofChange fnExactColourNameSpec)

/-- ITS FALSE NEIGHBOUR: 'it returns false'. Refute it at one input. -/
def fnExactColourNameWrong : ChangeSpec := { name := "fnExactColourName", fn := fun _ => fun
  | [d] => { results := [.lit (.bool false)], args := [d] }
  | _ => none }
def FnExactColourNameWrongFalsely : Prop := fnExactColourNameRow.holds Try.pinned (OpenSpec.ofChange fnExactColourNameWrong)

/-- 'laws.FnExactBlackAt': WHATEVER THE INPUT: true; the input reads as it did. -/
def fnExactBlackAtSpec : ChangeSpec := { name := "fnExactBlackAt", fn := fun _ => fun
  | [d1, d2, d3] => { results := [.lit (.bool true)], args := [d1, d2, d3] }
  | _ => none }
def fnExactBlackAtRow : OpenClaim := { program := "ytkkkjmppbladeaa", sum := "9ca7ecdea23ed9da85eac680c3ddfe52cf2e738124816b53fc7decf0cad2e061", func := "loop.example/g01312/laws.FnExactBlackAt", spec := "fnExactBlackAt", apart := false }
def FnExactBlackAtSaid : Prop := fnExactBlackAtRow.holds Try.pinned (OpenSpec.ofChange fnExactBlackAtSpec)

/-- ITS FALSE NEIGHBOUR: 'it returns false'. Refute it at one input. -/
def fnExactBlackAtWrong : ChangeSpec := { name := "fnExactBlackAt", fn := fun _ => fun
  | [d1, d2, d3] => { results := [.lit (.bool false)], args := [d1, d2, d3] }
  | _ => none }
def FnExactBlackAtWrongFalsely : Prop := fnExactBlackAtRow.holds Try.pinned (OpenSpec.ofChange fnExactBlackAtWrong)

/-- 'laws.FnExactShadeCell': WHATEVER THE INPUT: true; the input reads as it did. -/
def fnExactShadeCellSpec : ChangeSpec := { name := "fnExactShadeCell", fn := fun _ => fun
  | [d] => { results := [.lit (.bool true)], args := [d] }
  | _ => none }
def fnExactShadeCellRow : OpenClaim := { program := "ytkkkjmppbladeaa", sum := "9ca7ecdea23ed9da85eac680c3ddfe52cf2e738124816b53fc7decf0cad2e061", func := "loop.example/g01312/laws.FnExactShadeCell", spec := "fnExactShadeCell", apart := false }
def FnExactShadeCellSaid : Prop := fnExactShadeCellRow.holds Try.pinned (OpenSpec.ofChange fnExactShadeCellSpec)

/-- ITS FALSE NEIGHBOUR: 'it returns false'. Refute it at one input. -/
def fnExactShadeCellWrong : ChangeSpec := { name := "fnExactShadeCell", fn := fun _ => fun
  | [d] => { results := [.lit (.bool false)], args := [d] }
  | _ => none }
def FnExactShadeCellWrongFalsely : Prop := fnExactShadeCellRow.holds Try.pinned (OpenSpec.ofChange fnExactShadeCellWrong)

/-- 'laws.FnExactCoverCell': WHATEVER THE INPUT: true; the input reads as it did. -/
def fnExactCoverCellSpec : ChangeSpec := { name := "fnExactCoverCell", fn := fun _ => fun
  | [d1, d2, d3] => { results := [.lit (.bool true)], args := [d1, d2, d3] }
  | _ => none }
def fnExactCoverCellRow : OpenClaim := { program := "ytkkkjmppbladeaa", sum := "9ca7ecdea23ed9da85eac680c3ddfe52cf2e738124816b53fc7decf0cad2e061", func := "loop.example/g01312/laws.FnExactCoverCell", spec := "fnExactCoverCell", apart := false }
def FnExactCoverCellSaid : Prop := fnExactCoverCellRow.holds Try.pinned (OpenSpec.ofChange fnExactCoverCellSpec)

/-- ITS FALSE NEIGHBOUR: 'it returns false'. Refute it at one input. -/
def fnExactCoverCellWrong : ChangeSpec := { name := "fnExactCoverCell", fn := fun _ => fun
  | [d1, d2, d3] => { results := [.lit (.bool false)], args := [d1, d2, d3] }
  | _ => none }
def FnExactCoverCellWrongFalsely : Prop := fnExactCoverCellRow.holds Try.pinned (OpenSpec.ofChange fnExactCoverCellWrong)

/-- 'laws.FnExactPictureText': WHATEVER THE INPUT: true; the input reads as it did. -/
def fnExactPictureTextSpec : ChangeSpec := { name := "fnExactPictureText", fn := fun _ => fun
  | [d] => { results := [.lit (.bool true)], args := [d] }
  | _ => none }
def fnExactPictureTextRow : OpenClaim := { program := "ytkkkjmppbladeaa", sum := "9ca7ecdea23ed9da85eac680c3ddfe52cf2e738124816b53fc7decf0cad2e061", func := "loop.example/g01312/laws.FnExactPictureText", spec := "fnExactPictureText", apart := false }
def FnExactPictureTextSaid : Prop := fnExactPictureTextRow.holds Try.pinned (OpenSpec.ofChange fnExactPictureTextSpec)

/-- ITS FALSE NEIGHBOUR: 'it returns false'. Refute it at one input. -/
def fnExactPictureTextWrong : ChangeSpec := { name := "fnExactPictureText", fn := fun _ => fun
  | [d] => { results := [.lit (.bool false)], args := [d] }
  | _ => none }
def FnExactPictureTextWrongFalsely : Prop := fnExactPictureTextRow.holds Try.pinned (OpenSpec.ofChange fnExactPictureTextWrong)

/-- 'laws.FnExactValidShades': WHATEVER THE INPUT: true; the input reads as it did. -/
def fnExactValidShadesSpec : ChangeSpec := { name := "fnExactValidShades", fn := fun _ => fun
  | [d] => { results := [.lit (.bool true)], args := [d] }
  | _ => none }
def fnExactValidShadesRow : OpenClaim := { program := "ytkkkjmppbladeaa", sum := "9ca7ecdea23ed9da85eac680c3ddfe52cf2e738124816b53fc7decf0cad2e061", func := "loop.example/g01312/laws.FnExactValidShades", spec := "fnExactValidShades", apart := false }
def FnExactValidShadesSaid : Prop := fnExactValidShadesRow.holds Try.pinned (OpenSpec.ofChange fnExactValidShadesSpec)

/-- ITS FALSE NEIGHBOUR: 'it returns false'. Refute it at one input. -/
def fnExactValidShadesWrong : ChangeSpec := { name := "fnExactValidShades", fn := fun _ => fun
  | [d] => { results := [.lit (.bool false)], args := [d] }
  | _ => none }
def FnExactValidShadesWrongFalsely : Prop := fnExactValidShadesRow.holds Try.pinned (OpenSpec.ofChange fnExactValidShadesWrong)

/- THE SECOND FORM. 'bulk': how many values and letters a reading holds, each counted each time it is reached (what is shared counts as often as it is met; a slice's spare places count too). A statement '..UptoSaid' is the law's where the arguments, and the package variables that the reading takes, are together of bulk at most 1048576: NARROWER than '..Said'. Prove '..Said' where nothing that the law and all that it calls make is longer than what came in: it says more and counts as full. Else prove '..UptoSaid'. A law counts once. -/
mutual
def uptoBulk {H : Type} : DataW H → Nat
  | .lit (.string bytes) => bytes.length + 1
  | .lit _ => 1
  | .nil => 1
  | .ptr d => uptoBulk d + 1
  | .slice elems spare => uptoBulkAll elems + uptoBulkAll spare + 1
  | .agg parts => uptoBulkAll parts + 1
  | .iface _ d => uptoBulk d + 1
  | .map entries => uptoBulkEntries entries + 1
  | .held _ => 1
def uptoBulkAll {H : Type} : List (DataW H) → Nat
  | [] => 0
  | d :: r => uptoBulk d + uptoBulkAll r
def uptoBulkEntries {H : Type} : List (Lit × DataW H) → Nat
  | [] => 0
  | x :: r => uptoBulkEntry x + uptoBulkEntries r
def uptoBulkEntry {H : Type} : Lit × DataW H → Nat
  | (.string bytes, d) => bytes.length + uptoBulk d + 1
  | (_, d) => uptoBulk d + 1
 end
def uptoSmall : (H : Type) → List (DataW H) → Bool := fun _ ds => decide (uptoBulkAll ds ≤ 1048576)
def OpenSpec.upto (s : _root_.Go.ChangeSpec) : _root_.Go.OpenSpec := { _root_.Go.OpenSpec.ofChange s with cond := some uptoSmall }

/-- 'laws.FnExactColourName', WHERE WHAT IT READS IS OF BULK AT MOST 1048576: true; the input reads as it did. -/
def fnExactColourNameUptoRow : OpenClaim := { program := "ytkkkjmppbladeaa", sum := "9ca7ecdea23ed9da85eac680c3ddfe52cf2e738124816b53fc7decf0cad2e061", func := "loop.example/g01312/laws.FnExactColourName", spec := "fnExactColourName", apart := false, narrowed := true }
def FnExactColourNameUptoSaid : Prop := fnExactColourNameUptoRow.holds Try.pinned (OpenSpec.upto fnExactColourNameSpec)

/-- 'laws.FnExactBlackAt', WHERE WHAT IT READS IS OF BULK AT MOST 1048576: true; the input reads as it did. -/
def fnExactBlackAtUptoRow : OpenClaim := { program := "ytkkkjmppbladeaa", sum := "9ca7ecdea23ed9da85eac680c3ddfe52cf2e738124816b53fc7decf0cad2e061", func := "loop.example/g01312/laws.FnExactBlackAt", spec := "fnExactBlackAt", apart := false, narrowed := true }
def FnExactBlackAtUptoSaid : Prop := fnExactBlackAtUptoRow.holds Try.pinned (OpenSpec.upto fnExactBlackAtSpec)

/-- 'laws.FnExactShadeCell', WHERE WHAT IT READS IS OF BULK AT MOST 1048576: true; the input reads as it did. -/
def fnExactShadeCellUptoRow : OpenClaim := { program := "ytkkkjmppbladeaa", sum := "9ca7ecdea23ed9da85eac680c3ddfe52cf2e738124816b53fc7decf0cad2e061", func := "loop.example/g01312/laws.FnExactShadeCell", spec := "fnExactShadeCell", apart := false, narrowed := true }
def FnExactShadeCellUptoSaid : Prop := fnExactShadeCellUptoRow.holds Try.pinned (OpenSpec.upto fnExactShadeCellSpec)

/-- 'laws.FnExactCoverCell', WHERE WHAT IT READS IS OF BULK AT MOST 1048576: true; the input reads as it did. -/
def fnExactCoverCellUptoRow : OpenClaim := { program := "ytkkkjmppbladeaa", sum := "9ca7ecdea23ed9da85eac680c3ddfe52cf2e738124816b53fc7decf0cad2e061", func := "loop.example/g01312/laws.FnExactCoverCell", spec := "fnExactCoverCell", apart := false, narrowed := true }
def FnExactCoverCellUptoSaid : Prop := fnExactCoverCellUptoRow.holds Try.pinned (OpenSpec.upto fnExactCoverCellSpec)

/-- 'laws.FnExactPictureText', WHERE WHAT IT READS IS OF BULK AT MOST 1048576: true; the input reads as it did. -/
def fnExactPictureTextUptoRow : OpenClaim := { program := "ytkkkjmppbladeaa", sum := "9ca7ecdea23ed9da85eac680c3ddfe52cf2e738124816b53fc7decf0cad2e061", func := "loop.example/g01312/laws.FnExactPictureText", spec := "fnExactPictureText", apart := false, narrowed := true }
def FnExactPictureTextUptoSaid : Prop := fnExactPictureTextUptoRow.holds Try.pinned (OpenSpec.upto fnExactPictureTextSpec)

/-- 'laws.FnExactValidShades', WHERE WHAT IT READS IS OF BULK AT MOST 1048576: true; the input reads as it did. -/
def fnExactValidShadesUptoRow : OpenClaim := { program := "ytkkkjmppbladeaa", sum := "9ca7ecdea23ed9da85eac680c3ddfe52cf2e738124816b53fc7decf0cad2e061", func := "loop.example/g01312/laws.FnExactValidShades", spec := "fnExactValidShades", apart := false, narrowed := true }
def FnExactValidShadesUptoSaid : Prop := fnExactValidShadesUptoRow.holds Try.pinned (OpenSpec.upto fnExactValidShadesSpec)

end Rows
end Go.Proofs.Ytkkkjmppbladeaa
