/-
  No cell of these rows narrows 'for every input' (looked for: loops, veiled, ifaces, maps, wideKeys, modest, calm, conditions, laid).
  DERIVED. THE GIVEN ROWS OF THIS SEAT. 12 by the template 'for every input the law returns true; each argument reads behind the call as it read before'; 0 by the template 'total and deterministic' (their statements: YtagjdgglpphinaaTotals.lean).
  GIVEN WITH THE SEED: the statements are not yours to turn. If you find one false, say at which input.
  Laid BY PROGRAM, IN A SANDBOX (cutbox-rows.mjs): the forced cells as the released guide's own fill.sh prints them over the translation 5699a9b0e783c401… (all of the seat's roots in one cut). By AI agents, Wed Nov 11 2026. No macro, syntax, notation, axiom, sorry.
-/
import Derived.Test.YtagjdgglpphinaaChecked
import GoSem.Claim
import GoSem.ClaimJoined
import GoSem.ClaimMapViews
import Derived.JoinedTies
import Derived.KernelRfl
namespace Go.Proofs.Ytagjdgglpphinaa
/- THE CELL 'sum', in the pinned program and in every row, IS THE sha256 OF THE DUMP (.gsa) THAT YtagjdgglpphinaaProg.lean LOADS. Nothing in Lean hashes anything: it is a label: what it is worth is what the hold of that sum in a sandbox is worth. -/
noncomputable def Try.pinned : Pinned := { name := "ytagjdgglpphinaa", sum := "5699a9b0e783c40176c37d0f454b32e6799f303c01a7e195ca527df750beea60", checked := Try.checked }
namespace Rows
def none {H : Type} : Left H := { results := [], args := [] }

/-- 'laws.FnExactJoinColours': WHATEVER THE INPUT: true; the input reads as it did. -/
def fnExactJoinColoursSpec : ChangeSpec := { name := "fnExactJoinColours", fn := fun _ => fun
  | [d] => { results := [.lit (.bool true)], args := [d] }
  | _ => none }
def fnExactJoinColoursRow : OpenClaim := { program := "ytagjdgglpphinaa", sum := "5699a9b0e783c40176c37d0f454b32e6799f303c01a7e195ca527df750beea60", func := "loop.example/g01312/laws.FnExactJoinColours", spec := "fnExactJoinColours", apart := false }
def FnExactJoinColoursSaid : Prop := fnExactJoinColoursRow.holds Try.pinned (OpenSpec.ofChange fnExactJoinColoursSpec)

/-- ITS FALSE NEIGHBOUR: 'it returns false'. Refute it at one input. -/
def fnExactJoinColoursWrong : ChangeSpec := { name := "fnExactJoinColours", fn := fun _ => fun
  | [d] => { results := [.lit (.bool false)], args := [d] }
  | _ => none }
def FnExactJoinColoursWrongFalsely : Prop := fnExactJoinColoursRow.holds Try.pinned (OpenSpec.ofChange fnExactJoinColoursWrong)

/-- 'laws.FnExactMirrorPicture': WHATEVER THE INPUT: true; the input reads as it did. -/
def fnExactMirrorPictureSpec : ChangeSpec := { name := "fnExactMirrorPicture", fn := fun _ => fun
  | [d] => { results := [.lit (.bool true)], args := [d] }
  | _ => none }
def fnExactMirrorPictureRow : OpenClaim := { program := "ytagjdgglpphinaa", sum := "5699a9b0e783c40176c37d0f454b32e6799f303c01a7e195ca527df750beea60", func := "loop.example/g01312/laws.FnExactMirrorPicture", spec := "fnExactMirrorPicture", unfollowed := true, recurses := true, apart := false }
def FnExactMirrorPictureSaid : Prop := fnExactMirrorPictureRow.holds Try.pinned (OpenSpec.ofChange fnExactMirrorPictureSpec)

/-- ITS FALSE NEIGHBOUR: 'it returns false'. Refute it at one input. -/
def fnExactMirrorPictureWrong : ChangeSpec := { name := "fnExactMirrorPicture", fn := fun _ => fun
  | [d] => { results := [.lit (.bool false)], args := [d] }
  | _ => none }
def FnExactMirrorPictureWrongFalsely : Prop := fnExactMirrorPictureRow.holds Try.pinned (OpenSpec.ofChange fnExactMirrorPictureWrong)

/-- 'laws.FnExactTurnPicture': WHATEVER THE INPUT: true; the input reads as it did. -/
def fnExactTurnPictureSpec : ChangeSpec := { name := "fnExactTurnPicture", fn := fun _ => fun
  | [d] => { results := [.lit (.bool true)], args := [d] }
  | _ => none }
def fnExactTurnPictureRow : OpenClaim := { program := "ytagjdgglpphinaa", sum := "5699a9b0e783c40176c37d0f454b32e6799f303c01a7e195ca527df750beea60", func := "loop.example/g01312/laws.FnExactTurnPicture", spec := "fnExactTurnPicture", unfollowed := true, recurses := true, apart := false }
def FnExactTurnPictureSaid : Prop := fnExactTurnPictureRow.holds Try.pinned (OpenSpec.ofChange fnExactTurnPictureSpec)

/-- ITS FALSE NEIGHBOUR: 'it returns false'. Refute it at one input. -/
def fnExactTurnPictureWrong : ChangeSpec := { name := "fnExactTurnPicture", fn := fun _ => fun
  | [d] => { results := [.lit (.bool false)], args := [d] }
  | _ => none }
def FnExactTurnPictureWrongFalsely : Prop := fnExactTurnPictureRow.holds Try.pinned (OpenSpec.ofChange fnExactTurnPictureWrong)

/-- 'laws.FnExactDarkestCell': WHATEVER THE INPUT: true; the input reads as it did. -/
def fnExactDarkestCellSpec : ChangeSpec := { name := "fnExactDarkestCell", fn := fun _ => fun
  | [d] => { results := [.lit (.bool true)], args := [d] }
  | _ => none }
def fnExactDarkestCellRow : OpenClaim := { program := "ytagjdgglpphinaa", sum := "5699a9b0e783c40176c37d0f454b32e6799f303c01a7e195ca527df750beea60", func := "loop.example/g01312/laws.FnExactDarkestCell", spec := "fnExactDarkestCell", apart := false }
def FnExactDarkestCellSaid : Prop := fnExactDarkestCellRow.holds Try.pinned (OpenSpec.ofChange fnExactDarkestCellSpec)

/-- ITS FALSE NEIGHBOUR: 'it returns false'. Refute it at one input. -/
def fnExactDarkestCellWrong : ChangeSpec := { name := "fnExactDarkestCell", fn := fun _ => fun
  | [d] => { results := [.lit (.bool false)], args := [d] }
  | _ => none }
def FnExactDarkestCellWrongFalsely : Prop := fnExactDarkestCellRow.holds Try.pinned (OpenSpec.ofChange fnExactDarkestCellWrong)

/-- 'laws.FnExactShadesText': WHATEVER THE INPUT: true; the input reads as it did. -/
def fnExactShadesTextSpec : ChangeSpec := { name := "fnExactShadesText", fn := fun _ => fun
  | [d] => { results := [.lit (.bool true)], args := [d] }
  | _ => none }
def fnExactShadesTextRow : OpenClaim := { program := "ytagjdgglpphinaa", sum := "5699a9b0e783c40176c37d0f454b32e6799f303c01a7e195ca527df750beea60", func := "loop.example/g01312/laws.FnExactShadesText", spec := "fnExactShadesText", apart := false }
def FnExactShadesTextSaid : Prop := fnExactShadesTextRow.holds Try.pinned (OpenSpec.ofChange fnExactShadesTextSpec)

/-- ITS FALSE NEIGHBOUR: 'it returns false'. Refute it at one input. -/
def fnExactShadesTextWrong : ChangeSpec := { name := "fnExactShadesText", fn := fun _ => fun
  | [d] => { results := [.lit (.bool false)], args := [d] }
  | _ => none }
def FnExactShadesTextWrongFalsely : Prop := fnExactShadesTextRow.holds Try.pinned (OpenSpec.ofChange fnExactShadesTextWrong)

/-- 'laws.FnExactSplitColours': WHATEVER THE INPUT: true; the input reads as it did. -/
def fnExactSplitColoursSpec : ChangeSpec := { name := "fnExactSplitColours", fn := fun _ => fun
  | [d] => { results := [.lit (.bool true)], args := [d] }
  | _ => none }
def fnExactSplitColoursRow : OpenClaim := { program := "ytagjdgglpphinaa", sum := "5699a9b0e783c40176c37d0f454b32e6799f303c01a7e195ca527df750beea60", func := "loop.example/g01312/laws.FnExactSplitColours", spec := "fnExactSplitColours", unfollowed := true, recurses := true, apart := false }
def FnExactSplitColoursSaid : Prop := fnExactSplitColoursRow.holds Try.pinned (OpenSpec.ofChange fnExactSplitColoursSpec)

/-- ITS FALSE NEIGHBOUR: 'it returns false'. Refute it at one input. -/
def fnExactSplitColoursWrong : ChangeSpec := { name := "fnExactSplitColours", fn := fun _ => fun
  | [d] => { results := [.lit (.bool false)], args := [d] }
  | _ => none }
def FnExactSplitColoursWrongFalsely : Prop := fnExactSplitColoursRow.holds Try.pinned (OpenSpec.ofChange fnExactSplitColoursWrong)

/-- 'laws.FnExactShadesOf': WHATEVER THE INPUT: true; the input reads as it did. -/
def fnExactShadesOfSpec : ChangeSpec := { name := "fnExactShadesOf", fn := fun _ => fun
  | [d] => { results := [.lit (.bool true)], args := [d] }
  | _ => none }
def fnExactShadesOfRow : OpenClaim := { program := "ytagjdgglpphinaa", sum := "5699a9b0e783c40176c37d0f454b32e6799f303c01a7e195ca527df750beea60", func := "loop.example/g01312/laws.FnExactShadesOf", spec := "fnExactShadesOf", apart := false }
def FnExactShadesOfSaid : Prop := fnExactShadesOfRow.holds Try.pinned (OpenSpec.ofChange fnExactShadesOfSpec)

/-- ITS FALSE NEIGHBOUR: 'it returns false'. Refute it at one input. -/
def fnExactShadesOfWrong : ChangeSpec := { name := "fnExactShadesOf", fn := fun _ => fun
  | [d] => { results := [.lit (.bool false)], args := [d] }
  | _ => none }
def FnExactShadesOfWrongFalsely : Prop := fnExactShadesOfRow.holds Try.pinned (OpenSpec.ofChange fnExactShadesOfWrong)

/-- 'laws.FnExactReadPicture': WHATEVER THE INPUT: true; the input reads as it did. -/
def fnExactReadPictureSpec : ChangeSpec := { name := "fnExactReadPicture", fn := fun _ => fun
  | [d] => { results := [.lit (.bool true)], args := [d] }
  | _ => none }
def fnExactReadPictureRow : OpenClaim := { program := "ytagjdgglpphinaa", sum := "5699a9b0e783c40176c37d0f454b32e6799f303c01a7e195ca527df750beea60", func := "loop.example/g01312/laws.FnExactReadPicture", spec := "fnExactReadPicture", unfollowed := true, recurses := true, apart := false }
def FnExactReadPictureSaid : Prop := fnExactReadPictureRow.holds Try.pinned (OpenSpec.ofChange fnExactReadPictureSpec)

/-- ITS FALSE NEIGHBOUR: 'it returns false'. Refute it at one input. -/
def fnExactReadPictureWrong : ChangeSpec := { name := "fnExactReadPicture", fn := fun _ => fun
  | [d] => { results := [.lit (.bool false)], args := [d] }
  | _ => none }
def FnExactReadPictureWrongFalsely : Prop := fnExactReadPictureRow.holds Try.pinned (OpenSpec.ofChange fnExactReadPictureWrong)

/-- 'laws.FnExactReadShades': WHATEVER THE INPUT: true; the input reads as it did. -/
def fnExactReadShadesSpec : ChangeSpec := { name := "fnExactReadShades", fn := fun _ => fun
  | [d] => { results := [.lit (.bool true)], args := [d] }
  | _ => none }
def fnExactReadShadesRow : OpenClaim := { program := "ytagjdgglpphinaa", sum := "5699a9b0e783c40176c37d0f454b32e6799f303c01a7e195ca527df750beea60", func := "loop.example/g01312/laws.FnExactReadShades", spec := "fnExactReadShades", apart := false }
def FnExactReadShadesSaid : Prop := fnExactReadShadesRow.holds Try.pinned (OpenSpec.ofChange fnExactReadShadesSpec)

/-- ITS FALSE NEIGHBOUR: 'it returns false'. Refute it at one input. -/
def fnExactReadShadesWrong : ChangeSpec := { name := "fnExactReadShades", fn := fun _ => fun
  | [d] => { results := [.lit (.bool false)], args := [d] }
  | _ => none }
def FnExactReadShadesWrongFalsely : Prop := fnExactReadShadesRow.holds Try.pinned (OpenSpec.ofChange fnExactReadShadesWrong)

/-- 'laws.FnExactPicturesOf': WHATEVER THE INPUT: true; the input reads as it did. -/
def fnExactPicturesOfSpec : ChangeSpec := { name := "fnExactPicturesOf", fn := fun _ => fun
  | [d] => { results := [.lit (.bool true)], args := [d] }
  | _ => none }
def fnExactPicturesOfRow : OpenClaim := { program := "ytagjdgglpphinaa", sum := "5699a9b0e783c40176c37d0f454b32e6799f303c01a7e195ca527df750beea60", func := "loop.example/g01312/laws.FnExactPicturesOf", spec := "fnExactPicturesOf", unfollowed := true, recurses := true, apart := false }
def FnExactPicturesOfSaid : Prop := fnExactPicturesOfRow.holds Try.pinned (OpenSpec.ofChange fnExactPicturesOfSpec)

/-- ITS FALSE NEIGHBOUR: 'it returns false'. Refute it at one input. -/
def fnExactPicturesOfWrong : ChangeSpec := { name := "fnExactPicturesOf", fn := fun _ => fun
  | [d] => { results := [.lit (.bool false)], args := [d] }
  | _ => none }
def FnExactPicturesOfWrongFalsely : Prop := fnExactPicturesOfRow.holds Try.pinned (OpenSpec.ofChange fnExactPicturesOfWrong)

/-- 'laws.FnExactShiftPicture': WHATEVER THE INPUT: true; the input reads as it did. -/
def fnExactShiftPictureSpec : ChangeSpec := { name := "fnExactShiftPicture", fn := fun _ => fun
  | [d1, d2, d3] => { results := [.lit (.bool true)], args := [d1, d2, d3] }
  | _ => none }
def fnExactShiftPictureRow : OpenClaim := { program := "ytagjdgglpphinaa", sum := "5699a9b0e783c40176c37d0f454b32e6799f303c01a7e195ca527df750beea60", func := "loop.example/g01312/laws.FnExactShiftPicture", spec := "fnExactShiftPicture", unfollowed := true, recurses := true, apart := false }
def FnExactShiftPictureSaid : Prop := fnExactShiftPictureRow.holds Try.pinned (OpenSpec.ofChange fnExactShiftPictureSpec)

/-- ITS FALSE NEIGHBOUR: 'it returns false'. Refute it at one input. -/
def fnExactShiftPictureWrong : ChangeSpec := { name := "fnExactShiftPicture", fn := fun _ => fun
  | [d1, d2, d3] => { results := [.lit (.bool false)], args := [d1, d2, d3] }
  | _ => none }
def FnExactShiftPictureWrongFalsely : Prop := fnExactShiftPictureRow.holds Try.pinned (OpenSpec.ofChange fnExactShiftPictureWrong)

/-- 'laws.FnExactKeepCells': WHATEVER THE INPUT: true; the input reads as it did. -/
def fnExactKeepCellsSpec : ChangeSpec := { name := "fnExactKeepCells", fn := fun _ => fun
  | [d1, d2] => { results := [.lit (.bool true)], args := [d1, d2] }
  | _ => none }
def fnExactKeepCellsRow : OpenClaim := { program := "ytagjdgglpphinaa", sum := "5699a9b0e783c40176c37d0f454b32e6799f303c01a7e195ca527df750beea60", func := "loop.example/g01312/laws.FnExactKeepCells", spec := "fnExactKeepCells", unfollowed := true, recurses := true, apart := false }
def FnExactKeepCellsSaid : Prop := fnExactKeepCellsRow.holds Try.pinned (OpenSpec.ofChange fnExactKeepCellsSpec)

/-- ITS FALSE NEIGHBOUR: 'it returns false'. Refute it at one input. -/
def fnExactKeepCellsWrong : ChangeSpec := { name := "fnExactKeepCells", fn := fun _ => fun
  | [d1, d2] => { results := [.lit (.bool false)], args := [d1, d2] }
  | _ => none }
def FnExactKeepCellsWrongFalsely : Prop := fnExactKeepCellsRow.holds Try.pinned (OpenSpec.ofChange fnExactKeepCellsWrong)

/- THE SECOND FORM. 'bulk': how many values and letters a reading holds, each counted each time it is reached (what is shared counts as often as it is met; a slice's spare places count too). A statement '..UptoSaid' is the law's where the arguments, and the package variables that the reading takes, are together of bulk at most 1048576: NARROWER than '..Said'. Prove '..Said' where nothing that the law and all that it calls make is longer than what came in: it says more and counts as full. Else prove '..UptoSaid'. A law counts once. -/
mutual
def uptoBulk {H : Type} : DataW H → Nat
  | .lit (.string bytes) => bytes.length + 1
  | .lit _ => 1
  | .nil => 1
  | .ptr d => uptoBulk d + 1
  | .slice elems spare => uptoBulkAll elems + uptoBulkAll spare + 1
  | .agg parts => uptoBulkAll parts + 1
  | .iface _ d => uptoBulk d + 1
  | .map entries => uptoBulkEntries entries + 1
  | .held _ => 1
def uptoBulkAll {H : Type} : List (DataW H) → Nat
  | [] => 0
  | d :: r => uptoBulk d + uptoBulkAll r
def uptoBulkEntries {H : Type} : List (Lit × DataW H) → Nat
  | [] => 0
  | x :: r => uptoBulkEntry x + uptoBulkEntries r
def uptoBulkEntry {H : Type} : Lit × DataW H → Nat
  | (.string bytes, d) => bytes.length + uptoBulk d + 1
  | (_, d) => uptoBulk d + 1
 end
def uptoSmall : (H : Type) → List (DataW H) → Bool := fun _ ds => decide (uptoBulkAll ds ≤ 1048576)
def OpenSpec.upto (s : _root_.Go.ChangeSpec) : _root_.Go.OpenSpec := { _root_.Go.OpenSpec.ofChange s with cond := some uptoSmall }

/-- 'laws.FnExactJoinColours', WHERE WHAT IT READS IS OF BULK AT MOST 1048576: true; the input reads as it did. -/
def fnExactJoinColoursUptoRow : OpenClaim := { program := "ytagjdgglpphinaa", sum := "5699a9b0e783c40176c37d0f454b32e6799f303c01a7e195ca527df750beea60", func := "loop.example/g01312/laws.FnExactJoinColours", spec := "fnExactJoinColours", apart := false, narrowed := true }
def FnExactJoinColoursUptoSaid : Prop := fnExactJoinColoursUptoRow.holds Try.pinned (OpenSpec.upto fnExactJoinColoursSpec)

/-- 'laws.FnExactMirrorPicture', WHERE WHAT IT READS IS OF BULK AT MOST 1048576: true; the input reads as it did. -/
def fnExactMirrorPictureUptoRow : OpenClaim := { program := "ytagjdgglpphinaa", sum := "5699a9b0e783c40176c37d0f454b32e6799f303c01a7e195ca527df750beea60", func := "loop.example/g01312/laws.FnExactMirrorPicture", spec := "fnExactMirrorPicture", unfollowed := true, recurses := true, apart := false, narrowed := true }
def FnExactMirrorPictureUptoSaid : Prop := fnExactMirrorPictureUptoRow.holds Try.pinned (OpenSpec.upto fnExactMirrorPictureSpec)

/-- 'laws.FnExactTurnPicture', WHERE WHAT IT READS IS OF BULK AT MOST 1048576: true; the input reads as it did. -/
def fnExactTurnPictureUptoRow : OpenClaim := { program := "ytagjdgglpphinaa", sum := "5699a9b0e783c40176c37d0f454b32e6799f303c01a7e195ca527df750beea60", func := "loop.example/g01312/laws.FnExactTurnPicture", spec := "fnExactTurnPicture", unfollowed := true, recurses := true, apart := false, narrowed := true }
def FnExactTurnPictureUptoSaid : Prop := fnExactTurnPictureUptoRow.holds Try.pinned (OpenSpec.upto fnExactTurnPictureSpec)

/-- 'laws.FnExactDarkestCell', WHERE WHAT IT READS IS OF BULK AT MOST 1048576: true; the input reads as it did. -/
def fnExactDarkestCellUptoRow : OpenClaim := { program := "ytagjdgglpphinaa", sum := "5699a9b0e783c40176c37d0f454b32e6799f303c01a7e195ca527df750beea60", func := "loop.example/g01312/laws.FnExactDarkestCell", spec := "fnExactDarkestCell", apart := false, narrowed := true }
def FnExactDarkestCellUptoSaid : Prop := fnExactDarkestCellUptoRow.holds Try.pinned (OpenSpec.upto fnExactDarkestCellSpec)

/-- 'laws.FnExactShadesText', WHERE WHAT IT READS IS OF BULK AT MOST 1048576: true; the input reads as it did. -/
def fnExactShadesTextUptoRow : OpenClaim := { program := "ytagjdgglpphinaa", sum := "5699a9b0e783c40176c37d0f454b32e6799f303c01a7e195ca527df750beea60", func := "loop.example/g01312/laws.FnExactShadesText", spec := "fnExactShadesText", apart := false, narrowed := true }
def FnExactShadesTextUptoSaid : Prop := fnExactShadesTextUptoRow.holds Try.pinned (OpenSpec.upto fnExactShadesTextSpec)

/-- 'laws.FnExactSplitColours', WHERE WHAT IT READS IS OF BULK AT MOST 1048576: true; the input reads as it did. -/
def fnExactSplitColoursUptoRow : OpenClaim := { program := "ytagjdgglpphinaa", sum := "5699a9b0e783c40176c37d0f454b32e6799f303c01a7e195ca527df750beea60", func := "loop.example/g01312/laws.FnExactSplitColours", spec := "fnExactSplitColours", unfollowed := true, recurses := true, apart := false, narrowed := true }
def FnExactSplitColoursUptoSaid : Prop := fnExactSplitColoursUptoRow.holds Try.pinned (OpenSpec.upto fnExactSplitColoursSpec)

/-- 'laws.FnExactShadesOf', WHERE WHAT IT READS IS OF BULK AT MOST 1048576: true; the input reads as it did. -/
def fnExactShadesOfUptoRow : OpenClaim := { program := "ytagjdgglpphinaa", sum := "5699a9b0e783c40176c37d0f454b32e6799f303c01a7e195ca527df750beea60", func := "loop.example/g01312/laws.FnExactShadesOf", spec := "fnExactShadesOf", apart := false, narrowed := true }
def FnExactShadesOfUptoSaid : Prop := fnExactShadesOfUptoRow.holds Try.pinned (OpenSpec.upto fnExactShadesOfSpec)

/-- 'laws.FnExactReadPicture', WHERE WHAT IT READS IS OF BULK AT MOST 1048576: true; the input reads as it did. -/
def fnExactReadPictureUptoRow : OpenClaim := { program := "ytagjdgglpphinaa", sum := "5699a9b0e783c40176c37d0f454b32e6799f303c01a7e195ca527df750beea60", func := "loop.example/g01312/laws.FnExactReadPicture", spec := "fnExactReadPicture", unfollowed := true, recurses := true, apart := false, narrowed := true }
def FnExactReadPictureUptoSaid : Prop := fnExactReadPictureUptoRow.holds Try.pinned (OpenSpec.upto fnExactReadPictureSpec)

/-- 'laws.FnExactReadShades', WHERE WHAT IT READS IS OF BULK AT MOST 1048576: true; the input reads as it did. -/
def fnExactReadShadesUptoRow : OpenClaim := { program := "ytagjdgglpphinaa", sum := "5699a9b0e783c40176c37d0f454b32e6799f303c01a7e195ca527df750beea60", func := "loop.example/g01312/laws.FnExactReadShades", spec := "fnExactReadShades", apart := false, narrowed := true }
def FnExactReadShadesUptoSaid : Prop := fnExactReadShadesUptoRow.holds Try.pinned (OpenSpec.upto fnExactReadShadesSpec)

/-- 'laws.FnExactPicturesOf', WHERE WHAT IT READS IS OF BULK AT MOST 1048576: true; the input reads as it did. -/
def fnExactPicturesOfUptoRow : OpenClaim := { program := "ytagjdgglpphinaa", sum := "5699a9b0e783c40176c37d0f454b32e6799f303c01a7e195ca527df750beea60", func := "loop.example/g01312/laws.FnExactPicturesOf", spec := "fnExactPicturesOf", unfollowed := true, recurses := true, apart := false, narrowed := true }
def FnExactPicturesOfUptoSaid : Prop := fnExactPicturesOfUptoRow.holds Try.pinned (OpenSpec.upto fnExactPicturesOfSpec)

/-- 'laws.FnExactShiftPicture', WHERE WHAT IT READS IS OF BULK AT MOST 1048576: true; the input reads as it did. -/
def fnExactShiftPictureUptoRow : OpenClaim := { program := "ytagjdgglpphinaa", sum := "5699a9b0e783c40176c37d0f454b32e6799f303c01a7e195ca527df750beea60", func := "loop.example/g01312/laws.FnExactShiftPicture", spec := "fnExactShiftPicture", unfollowed := true, recurses := true, apart := false, narrowed := true }
def FnExactShiftPictureUptoSaid : Prop := fnExactShiftPictureUptoRow.holds Try.pinned (OpenSpec.upto fnExactShiftPictureSpec)

/-- 'laws.FnExactKeepCells', WHERE WHAT IT READS IS OF BULK AT MOST 1048576: true; the input reads as it did. -/
def fnExactKeepCellsUptoRow : OpenClaim := { program := "ytagjdgglpphinaa", sum := "5699a9b0e783c40176c37d0f454b32e6799f303c01a7e195ca527df750beea60", func := "loop.example/g01312/laws.FnExactKeepCells", spec := "fnExactKeepCells", unfollowed := true, recurses := true, apart := false, narrowed := true }
def FnExactKeepCellsUptoSaid : Prop := fnExactKeepCellsUptoRow.holds Try.pinned (OpenSpec.upto fnExactKeepCellsSpec)

end Rows
end Go.Proofs.Ytagjdgglpphinaa
