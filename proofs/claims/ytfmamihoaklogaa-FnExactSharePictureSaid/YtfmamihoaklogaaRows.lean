/-
  No cell of these rows narrows 'for every input' (looked for: loops, veiled, ifaces, maps, wideKeys, modest, calm, conditions, laid).
  DERIVED. THE GIVEN ROWS OF THIS SEAT. 9 by the template 'for every input the law returns true; each argument reads behind the call as it read before'; 0 by the template 'total and deterministic' (their statements: YtfmamihoaklogaaTotals.lean).
  GIVEN WITH THE SEED: the statements are not yours to turn. If you find one false, say at which input.
  Laid BY PROGRAM, IN A SANDBOX (cutbox-rows.mjs): the forced cells as the released guide's own fill.sh prints them over the translation d69fafd60169af19… (all of the seat's roots in one cut). By AI agents, Wed Nov 11 2026. No macro, syntax, notation, axiom, sorry.
-/
import Derived.Test.YtfmamihoaklogaaChecked
import GoSem.Claim
import GoSem.ClaimJoined
import GoSem.ClaimMapViews
import Derived.JoinedTies
import Derived.KernelRfl
namespace Go.Proofs.Ytfmamihoaklogaa
/- THE CELL 'sum', in the pinned program and in every row, IS THE sha256 OF THE DUMP (.gsa) THAT YtfmamihoaklogaaProg.lean LOADS. Nothing in Lean hashes anything: it is a label: what it is worth is what the hold of that sum in a sandbox is worth. -/
noncomputable def Try.pinned : Pinned := { name := "ytfmamihoaklogaa", sum := "d69fafd60169af193f155428cf8eab5906ff4deab817dd92b80688eed04b6e4d", checked := Try.checked }
namespace Rows
def none {H : Type} : Left H := { results := [], args := [] }

/-- 'laws.FnExactContrastOf': WHATEVER THE INPUT: true; the input reads as it did. -/
def fnExactContrastOfSpec : ChangeSpec := { name := "fnExactContrastOf", fn := fun _ => fun
  | [d1, d2] => { results := [.lit (.bool true)], args := [d1, d2] }
  | _ => none }
def fnExactContrastOfRow : OpenClaim := { program := "ytfmamihoaklogaa", sum := "d69fafd60169af193f155428cf8eab5906ff4deab817dd92b80688eed04b6e4d", func := "loop.example/g01312/laws.FnExactContrastOf", spec := "fnExactContrastOf", apart := false }
def FnExactContrastOfSaid : Prop := fnExactContrastOfRow.holds Try.pinned (OpenSpec.ofChange fnExactContrastOfSpec)

/-- ITS FALSE NEIGHBOUR: 'it returns false'. Refute it at one input. -/
def fnExactContrastOfWrong : ChangeSpec := { name := "fnExactContrastOf", fn := fun _ => fun
  | [d1, d2] => { results := [.lit (.bool false)], args := [d1, d2] }
  | _ => none }
def FnExactContrastOfWrongFalsely : Prop := fnExactContrastOfRow.holds Try.pinned (OpenSpec.ofChange fnExactContrastOfWrong)

/-- 'laws.FnExactWithShare': WHATEVER THE INPUT: true; the input reads as it did. -/
def fnExactWithShareSpec : ChangeSpec := { name := "fnExactWithShare", fn := fun _ => fun
  | [d1, d2] => { results := [.lit (.bool true)], args := [d1, d2] }
  | _ => none }
def fnExactWithShareRow : OpenClaim := { program := "ytfmamihoaklogaa", sum := "d69fafd60169af193f155428cf8eab5906ff4deab817dd92b80688eed04b6e4d", func := "loop.example/g01312/laws.FnExactWithShare", spec := "fnExactWithShare", unfollowed := true, recurses := true, apart := false }
def FnExactWithShareSaid : Prop := fnExactWithShareRow.holds Try.pinned (OpenSpec.ofChange fnExactWithShareSpec)

/-- ITS FALSE NEIGHBOUR: 'it returns false'. Refute it at one input. -/
def fnExactWithShareWrong : ChangeSpec := { name := "fnExactWithShare", fn := fun _ => fun
  | [d1, d2] => { results := [.lit (.bool false)], args := [d1, d2] }
  | _ => none }
def FnExactWithShareWrongFalsely : Prop := fnExactWithShareRow.holds Try.pinned (OpenSpec.ofChange fnExactWithShareWrong)

/-- 'laws.FnExactWithoutShare': WHATEVER THE INPUT: true; the input reads as it did. -/
def fnExactWithoutShareSpec : ChangeSpec := { name := "fnExactWithoutShare", fn := fun _ => fun
  | [d1, d2] => { results := [.lit (.bool true)], args := [d1, d2] }
  | _ => none }
def fnExactWithoutShareRow : OpenClaim := { program := "ytfmamihoaklogaa", sum := "d69fafd60169af193f155428cf8eab5906ff4deab817dd92b80688eed04b6e4d", func := "loop.example/g01312/laws.FnExactWithoutShare", spec := "fnExactWithoutShare", unfollowed := true, recurses := true, apart := false }
def FnExactWithoutShareSaid : Prop := fnExactWithoutShareRow.holds Try.pinned (OpenSpec.ofChange fnExactWithoutShareSpec)

/-- ITS FALSE NEIGHBOUR: 'it returns false'. Refute it at one input. -/
def fnExactWithoutShareWrong : ChangeSpec := { name := "fnExactWithoutShare", fn := fun _ => fun
  | [d1, d2] => { results := [.lit (.bool false)], args := [d1, d2] }
  | _ => none }
def FnExactWithoutShareWrongFalsely : Prop := fnExactWithoutShareRow.holds Try.pinned (OpenSpec.ofChange fnExactWithoutShareWrong)

/-- 'laws.FnExactFamilyFrom': WHATEVER THE INPUT: true; the input reads as it did. -/
def fnExactFamilyFromSpec : ChangeSpec := { name := "fnExactFamilyFrom", fn := fun _ => fun
  | [d1, d2] => { results := [.lit (.bool true)], args := [d1, d2] }
  | _ => none }
def fnExactFamilyFromRow : OpenClaim := { program := "ytfmamihoaklogaa", sum := "d69fafd60169af193f155428cf8eab5906ff4deab817dd92b80688eed04b6e4d", func := "loop.example/g01312/laws.FnExactFamilyFrom", spec := "fnExactFamilyFrom", unfollowed := true, recurses := true, apart := false }
def FnExactFamilyFromSaid : Prop := fnExactFamilyFromRow.holds Try.pinned (OpenSpec.ofChange fnExactFamilyFromSpec)

/-- ITS FALSE NEIGHBOUR: 'it returns false'. Refute it at one input. -/
def fnExactFamilyFromWrong : ChangeSpec := { name := "fnExactFamilyFrom", fn := fun _ => fun
  | [d1, d2] => { results := [.lit (.bool false)], args := [d1, d2] }
  | _ => none }
def FnExactFamilyFromWrongFalsely : Prop := fnExactFamilyFromRow.holds Try.pinned (OpenSpec.ofChange fnExactFamilyFromWrong)

/-- 'laws.FnExactIsUseless': WHATEVER THE INPUT: true; the input reads as it did. -/
def fnExactIsUselessSpec : ChangeSpec := { name := "fnExactIsUseless", fn := fun _ => fun
  | [d1, d2] => { results := [.lit (.bool true)], args := [d1, d2] }
  | _ => none }
def fnExactIsUselessRow : OpenClaim := { program := "ytfmamihoaklogaa", sum := "d69fafd60169af193f155428cf8eab5906ff4deab817dd92b80688eed04b6e4d", func := "loop.example/g01312/laws.FnExactIsUseless", spec := "fnExactIsUseless", unfollowed := true, recurses := true, apart := false }
def FnExactIsUselessSaid : Prop := fnExactIsUselessRow.holds Try.pinned (OpenSpec.ofChange fnExactIsUselessSpec)

/-- ITS FALSE NEIGHBOUR: 'it returns false'. Refute it at one input. -/
def fnExactIsUselessWrong : ChangeSpec := { name := "fnExactIsUseless", fn := fun _ => fun
  | [d1, d2] => { results := [.lit (.bool false)], args := [d1, d2] }
  | _ => none }
def FnExactIsUselessWrongFalsely : Prop := fnExactIsUselessRow.holds Try.pinned (OpenSpec.ofChange fnExactIsUselessWrong)

/-- 'laws.FnExactSchemeByOthers': WHATEVER THE INPUT: true; the input reads as it did. -/
def fnExactSchemeByOthersSpec : ChangeSpec := { name := "fnExactSchemeByOthers", fn := fun _ => fun
  | [d] => { results := [.lit (.bool true)], args := [d] }
  | _ => none }
def fnExactSchemeByOthersRow : OpenClaim := { program := "ytfmamihoaklogaa", sum := "d69fafd60169af193f155428cf8eab5906ff4deab817dd92b80688eed04b6e4d", func := "loop.example/g01312/laws.FnExactSchemeByOthers", spec := "fnExactSchemeByOthers", apart := false }
def FnExactSchemeByOthersSaid : Prop := fnExactSchemeByOthersRow.holds Try.pinned (OpenSpec.ofChange fnExactSchemeByOthersSpec)

/-- ITS FALSE NEIGHBOUR: 'it returns false'. Refute it at one input. -/
def fnExactSchemeByOthersWrong : ChangeSpec := { name := "fnExactSchemeByOthers", fn := fun _ => fun
  | [d] => { results := [.lit (.bool false)], args := [d] }
  | _ => none }
def FnExactSchemeByOthersWrongFalsely : Prop := fnExactSchemeByOthersRow.holds Try.pinned (OpenSpec.ofChange fnExactSchemeByOthersWrong)

/-- 'laws.FnExactSharePicture': WHATEVER THE INPUT: true; the input reads as it did. -/
def fnExactSharePictureSpec : ChangeSpec := { name := "fnExactSharePicture", fn := fun _ => fun
  | [d1, d2, d3] => { results := [.lit (.bool true)], args := [d1, d2, d3] }
  | _ => none }
def fnExactSharePictureRow : OpenClaim := { program := "ytfmamihoaklogaa", sum := "d69fafd60169af193f155428cf8eab5906ff4deab817dd92b80688eed04b6e4d", func := "loop.example/g01312/laws.FnExactSharePicture", spec := "fnExactSharePicture", apart := false }
def FnExactSharePictureSaid : Prop := fnExactSharePictureRow.holds Try.pinned (OpenSpec.ofChange fnExactSharePictureSpec)

/-- ITS FALSE NEIGHBOUR: 'it returns false'. Refute it at one input. -/
def fnExactSharePictureWrong : ChangeSpec := { name := "fnExactSharePicture", fn := fun _ => fun
  | [d1, d2, d3] => { results := [.lit (.bool false)], args := [d1, d2, d3] }
  | _ => none }
def FnExactSharePictureWrongFalsely : Prop := fnExactSharePictureRow.holds Try.pinned (OpenSpec.ofChange fnExactSharePictureWrong)

/-- 'laws.FnExactSchemeBySets': WHATEVER THE INPUT: true; the input reads as it did. -/
def fnExactSchemeBySetsSpec : ChangeSpec := { name := "fnExactSchemeBySets", fn := fun _ => fun
  | [d] => { results := [.lit (.bool true)], args := [d] }
  | _ => none }
def fnExactSchemeBySetsRow : OpenClaim := { program := "ytfmamihoaklogaa", sum := "d69fafd60169af193f155428cf8eab5906ff4deab817dd92b80688eed04b6e4d", func := "loop.example/g01312/laws.FnExactSchemeBySets", spec := "fnExactSchemeBySets", apart := false }
def FnExactSchemeBySetsSaid : Prop := fnExactSchemeBySetsRow.holds Try.pinned (OpenSpec.ofChange fnExactSchemeBySetsSpec)

/-- ITS FALSE NEIGHBOUR: 'it returns false'. Refute it at one input. -/
def fnExactSchemeBySetsWrong : ChangeSpec := { name := "fnExactSchemeBySets", fn := fun _ => fun
  | [d] => { results := [.lit (.bool false)], args := [d] }
  | _ => none }
def FnExactSchemeBySetsWrongFalsely : Prop := fnExactSchemeBySetsRow.holds Try.pinned (OpenSpec.ofChange fnExactSchemeBySetsWrong)

/-- 'laws.FnExactShorterScheme': WHATEVER THE INPUT: true; the input reads as it did. -/
def fnExactShorterSchemeSpec : ChangeSpec := { name := "fnExactShorterScheme", fn := fun _ => fun
  | [d] => { results := [.lit (.bool true)], args := [d] }
  | _ => none }
def fnExactShorterSchemeRow : OpenClaim := { program := "ytfmamihoaklogaa", sum := "d69fafd60169af193f155428cf8eab5906ff4deab817dd92b80688eed04b6e4d", func := "loop.example/g01312/laws.FnExactShorterScheme", spec := "fnExactShorterScheme", apart := false }
def FnExactShorterSchemeSaid : Prop := fnExactShorterSchemeRow.holds Try.pinned (OpenSpec.ofChange fnExactShorterSchemeSpec)

/-- ITS FALSE NEIGHBOUR: 'it returns false'. Refute it at one input. -/
def fnExactShorterSchemeWrong : ChangeSpec := { name := "fnExactShorterScheme", fn := fun _ => fun
  | [d] => { results := [.lit (.bool false)], args := [d] }
  | _ => none }
def FnExactShorterSchemeWrongFalsely : Prop := fnExactShorterSchemeRow.holds Try.pinned (OpenSpec.ofChange fnExactShorterSchemeWrong)

/- THE SECOND FORM. 'bulk': how many values and letters a reading holds, each counted each time it is reached (what is shared counts as often as it is met; a slice's spare places count too). A statement '..UptoSaid' is the law's where the arguments, and the package variables that the reading takes, are together of bulk at most 1048576: NARROWER than '..Said'. Prove '..Said' where nothing that the law and all that it calls make is longer than what came in: it says more and counts as full. Else prove '..UptoSaid'. A law counts once. -/
mutual
def uptoBulk {H : Type} : DataW H → Nat
  | .lit (.string bytes) => bytes.length + 1
  | .lit _ => 1
  | .nil => 1
  | .ptr d => uptoBulk d + 1
  | .slice elems spare => uptoBulkAll elems + uptoBulkAll spare + 1
  | .agg parts => uptoBulkAll parts + 1
  | .iface _ d => uptoBulk d + 1
  | .map entries => uptoBulkEntries entries + 1
  | .held _ => 1
def uptoBulkAll {H : Type} : List (DataW H) → Nat
  | [] => 0
  | d :: r => uptoBulk d + uptoBulkAll r
def uptoBulkEntries {H : Type} : List (Lit × DataW H) → Nat
  | [] => 0
  | x :: r => uptoBulkEntry x + uptoBulkEntries r
def uptoBulkEntry {H : Type} : Lit × DataW H → Nat
  | (.string bytes, d) => bytes.length + uptoBulk d + 1
  | (_, d) => uptoBulk d + 1
 end
def uptoSmall : (H : Type) → List (DataW H) → Bool := fun _ ds => decide (uptoBulkAll ds ≤ 1048576)
def OpenSpec.upto (s : _root_.Go.ChangeSpec) : _root_.Go.OpenSpec := { _root_.Go.OpenSpec.ofChange s with cond := some uptoSmall }

/-- 'laws.FnExactContrastOf', WHERE WHAT IT READS IS OF BULK AT MOST 1048576: true; the input reads as it did. -/
def fnExactContrastOfUptoRow : OpenClaim := { program := "ytfmamihoaklogaa", sum := "d69fafd60169af193f155428cf8eab5906ff4deab817dd92b80688eed04b6e4d", func := "loop.example/g01312/laws.FnExactContrastOf", spec := "fnExactContrastOf", apart := false, narrowed := true }
def FnExactContrastOfUptoSaid : Prop := fnExactContrastOfUptoRow.holds Try.pinned (OpenSpec.upto fnExactContrastOfSpec)

/-- 'laws.FnExactWithShare', WHERE WHAT IT READS IS OF BULK AT MOST 1048576: true; the input reads as it did. -/
def fnExactWithShareUptoRow : OpenClaim := { program := "ytfmamihoaklogaa", sum := "d69fafd60169af193f155428cf8eab5906ff4deab817dd92b80688eed04b6e4d", func := "loop.example/g01312/laws.FnExactWithShare", spec := "fnExactWithShare", unfollowed := true, recurses := true, apart := false, narrowed := true }
def FnExactWithShareUptoSaid : Prop := fnExactWithShareUptoRow.holds Try.pinned (OpenSpec.upto fnExactWithShareSpec)

/-- 'laws.FnExactWithoutShare', WHERE WHAT IT READS IS OF BULK AT MOST 1048576: true; the input reads as it did. -/
def fnExactWithoutShareUptoRow : OpenClaim := { program := "ytfmamihoaklogaa", sum := "d69fafd60169af193f155428cf8eab5906ff4deab817dd92b80688eed04b6e4d", func := "loop.example/g01312/laws.FnExactWithoutShare", spec := "fnExactWithoutShare", unfollowed := true, recurses := true, apart := false, narrowed := true }
def FnExactWithoutShareUptoSaid : Prop := fnExactWithoutShareUptoRow.holds Try.pinned (OpenSpec.upto fnExactWithoutShareSpec)

/-- 'laws.FnExactFamilyFrom', WHERE WHAT IT READS IS OF BULK AT MOST 1048576: true; the input reads as it did. -/
def fnExactFamilyFromUptoRow : OpenClaim := { program := "ytfmamihoaklogaa", sum := "d69fafd60169af193f155428cf8eab5906ff4deab817dd92b80688eed04b6e4d", func := "loop.example/g01312/laws.FnExactFamilyFrom", spec := "fnExactFamilyFrom", unfollowed := true, recurses := true, apart := false, narrowed := true }
def FnExactFamilyFromUptoSaid : Prop := fnExactFamilyFromUptoRow.holds Try.pinned (OpenSpec.upto fnExactFamilyFromSpec)

/-- 'laws.FnExactIsUseless', WHERE WHAT IT READS IS OF BULK AT MOST 1048576: true; the input reads as it did. -/
def fnExactIsUselessUptoRow : OpenClaim := { program := "ytfmamihoaklogaa", sum := "d69fafd60169af193f155428cf8eab5906ff4deab817dd92b80688eed04b6e4d", func := "loop.example/g01312/laws.FnExactIsUseless", spec := "fnExactIsUseless", unfollowed := true, recurses := true, apart := false, narrowed := true }
def FnExactIsUselessUptoSaid : Prop := fnExactIsUselessUptoRow.holds Try.pinned (OpenSpec.upto fnExactIsUselessSpec)

/-- 'laws.FnExactSchemeByOthers', WHERE WHAT IT READS IS OF BULK AT MOST 1048576: true; the input reads as it did. -/
def fnExactSchemeByOthersUptoRow : OpenClaim := { program := "ytfmamihoaklogaa", sum := "d69fafd60169af193f155428cf8eab5906ff4deab817dd92b80688eed04b6e4d", func := "loop.example/g01312/laws.FnExactSchemeByOthers", spec := "fnExactSchemeByOthers", apart := false, narrowed := true }
def FnExactSchemeByOthersUptoSaid : Prop := fnExactSchemeByOthersUptoRow.holds Try.pinned (OpenSpec.upto fnExactSchemeByOthersSpec)

/-- 'laws.FnExactSharePicture', WHERE WHAT IT READS IS OF BULK AT MOST 1048576: true; the input reads as it did. -/
def fnExactSharePictureUptoRow : OpenClaim := { program := "ytfmamihoaklogaa", sum := "d69fafd60169af193f155428cf8eab5906ff4deab817dd92b80688eed04b6e4d", func := "loop.example/g01312/laws.FnExactSharePicture", spec := "fnExactSharePicture", apart := false, narrowed := true }
def FnExactSharePictureUptoSaid : Prop := fnExactSharePictureUptoRow.holds Try.pinned (OpenSpec.upto fnExactSharePictureSpec)

/-- 'laws.FnExactSchemeBySets', WHERE WHAT IT READS IS OF BULK AT MOST 1048576: true; the input reads as it did. -/
def fnExactSchemeBySetsUptoRow : OpenClaim := { program := "ytfmamihoaklogaa", sum := "d69fafd60169af193f155428cf8eab5906ff4deab817dd92b80688eed04b6e4d", func := "loop.example/g01312/laws.FnExactSchemeBySets", spec := "fnExactSchemeBySets", apart := false, narrowed := true }
def FnExactSchemeBySetsUptoSaid : Prop := fnExactSchemeBySetsUptoRow.holds Try.pinned (OpenSpec.upto fnExactSchemeBySetsSpec)

/-- 'laws.FnExactShorterScheme', WHERE WHAT IT READS IS OF BULK AT MOST 1048576: true; the input reads as it did. -/
def fnExactShorterSchemeUptoRow : OpenClaim := { program := "ytfmamihoaklogaa", sum := "d69fafd60169af193f155428cf8eab5906ff4deab817dd92b80688eed04b6e4d", func := "loop.example/g01312/laws.FnExactShorterScheme", spec := "fnExactShorterScheme", apart := false, narrowed := true }
def FnExactShorterSchemeUptoSaid : Prop := fnExactShorterSchemeUptoRow.holds Try.pinned (OpenSpec.upto fnExactShorterSchemeSpec)

end Rows
end Go.Proofs.Ytfmamihoaklogaa
