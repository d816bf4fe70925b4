/-
  No cell of these rows narrows 'for every input' (looked for: loops, veiled, ifaces, maps, wideKeys, modest, calm, conditions, laid).
  DERIVED. THE GIVEN ROWS OF THIS SEAT. 12 by the template 'for every input the law returns true; each argument reads behind the call as it read before'; 0 by the template 'total and deterministic' (their statements: YtbplifhgpbdmgaaTotals.lean).
  GIVEN WITH THE SEED: the statements are not yours to turn. If you find one false, say at which input.
  Laid BY PROGRAM, IN A SANDBOX (cutbox-rows.mjs): the forced cells as the released guide's own fill.sh prints them over the translation a761f6e533de0307… (all of the seat's roots in one cut). By AI agents, Wed Nov 11 2026. No macro, syntax, notation, axiom, sorry.
-/
import Derived.Test.YtbplifhgpbdmgaaChecked
import GoSem.Claim
import GoSem.ClaimJoined
import GoSem.ClaimMapViews
import Derived.JoinedTies
import Derived.KernelRfl
namespace Go.Proofs.Ytbplifhgpbdmgaa
/- THE CELL 'sum', in the pinned program and in every row, IS THE sha256 OF THE DUMP (.gsa) THAT YtbplifhgpbdmgaaProg.lean LOADS. Nothing in Lean hashes anything: it is a label: what it is worth is what the hold of that sum in a sandbox is worth. -/
noncomputable def Try.pinned : Pinned := { name := "ytbplifhgpbdmgaa", sum := "a761f6e533de03079b2df30eea716083f251149034b29299771a6274167bb09c", checked := Try.checked }
namespace Rows
def none {H : Type} : Left H := { results := [], args := [] }

/-- 'laws.FnExactValidFamily': WHATEVER THE INPUT: true; the input reads as it did. -/
def fnExactValidFamilySpec : ChangeSpec := { name := "fnExactValidFamily", fn := fun _ => fun
  | [d] => { results := [.lit (.bool true)], args := [d] }
  | _ => none }
def fnExactValidFamilyRow : OpenClaim := { program := "ytbplifhgpbdmgaa", sum := "a761f6e533de03079b2df30eea716083f251149034b29299771a6274167bb09c", func := "loop.example/g01312/laws.FnExactValidFamily", spec := "fnExactValidFamily", apart := false }
def FnExactValidFamilySaid : Prop := fnExactValidFamilyRow.holds Try.pinned (OpenSpec.ofChange fnExactValidFamilySpec)

/-- ITS FALSE NEIGHBOUR: 'it returns false'. Refute it at one input. -/
def fnExactValidFamilyWrong : ChangeSpec := { name := "fnExactValidFamily", fn := fun _ => fun
  | [d] => { results := [.lit (.bool false)], args := [d] }
  | _ => none }
def FnExactValidFamilyWrongFalsely : Prop := fnExactValidFamilyRow.holds Try.pinned (OpenSpec.ofChange fnExactValidFamilyWrong)

/-- 'laws.FnExactHasSet': WHATEVER THE INPUT: true; the input reads as it did. -/
def fnExactHasSetSpec : ChangeSpec := { name := "fnExactHasSet", fn := fun _ => fun
  | [d1, d2] => { results := [.lit (.bool true)], args := [d1, d2] }
  | _ => none }
def fnExactHasSetRow : OpenClaim := { program := "ytbplifhgpbdmgaa", sum := "a761f6e533de03079b2df30eea716083f251149034b29299771a6274167bb09c", func := "loop.example/g01312/laws.FnExactHasSet", spec := "fnExactHasSet", apart := false }
def FnExactHasSetSaid : Prop := fnExactHasSetRow.holds Try.pinned (OpenSpec.ofChange fnExactHasSetSpec)

/-- ITS FALSE NEIGHBOUR: 'it returns false'. Refute it at one input. -/
def fnExactHasSetWrong : ChangeSpec := { name := "fnExactHasSet", fn := fun _ => fun
  | [d1, d2] => { results := [.lit (.bool false)], args := [d1, d2] }
  | _ => none }
def FnExactHasSetWrongFalsely : Prop := fnExactHasSetRow.holds Try.pinned (OpenSpec.ofChange fnExactHasSetWrong)

/-- 'laws.FnExactThresholdOf': WHATEVER THE INPUT: true; the input reads as it did. -/
def fnExactThresholdOfSpec : ChangeSpec := { name := "fnExactThresholdOf", fn := fun _ => fun
  | [d1, d2] => { results := [.lit (.bool true)], args := [d1, d2] }
  | _ => none }
def fnExactThresholdOfRow : OpenClaim := { program := "ytbplifhgpbdmgaa", sum := "a761f6e533de03079b2df30eea716083f251149034b29299771a6274167bb09c", func := "loop.example/g01312/laws.FnExactThresholdOf", spec := "fnExactThresholdOf", unfollowed := true, recurses := true, apart := false }
def FnExactThresholdOfSaid : Prop := fnExactThresholdOfRow.holds Try.pinned (OpenSpec.ofChange fnExactThresholdOfSpec)

/-- ITS FALSE NEIGHBOUR: 'it returns false'. Refute it at one input. -/
def fnExactThresholdOfWrong : ChangeSpec := { name := "fnExactThresholdOf", fn := fun _ => fun
  | [d1, d2] => { results := [.lit (.bool false)], args := [d1, d2] }
  | _ => none }
def FnExactThresholdOfWrongFalsely : Prop := fnExactThresholdOfRow.holds Try.pinned (OpenSpec.ofChange fnExactThresholdOfWrong)

/-- 'laws.FnExactIsNeeded': WHATEVER THE INPUT: true; the input reads as it did. -/
def fnExactIsNeededSpec : ChangeSpec := { name := "fnExactIsNeeded", fn := fun _ => fun
  | [d1, d2] => { results := [.lit (.bool true)], args := [d1, d2] }
  | _ => none }
def fnExactIsNeededRow : OpenClaim := { program := "ytbplifhgpbdmgaa", sum := "a761f6e533de03079b2df30eea716083f251149034b29299771a6274167bb09c", func := "loop.example/g01312/laws.FnExactIsNeeded", spec := "fnExactIsNeeded", apart := false }
def FnExactIsNeededSaid : Prop := fnExactIsNeededRow.holds Try.pinned (OpenSpec.ofChange fnExactIsNeededSpec)

/-- ITS FALSE NEIGHBOUR: 'it returns false'. Refute it at one input. -/
def fnExactIsNeededWrong : ChangeSpec := { name := "fnExactIsNeeded", fn := fun _ => fun
  | [d1, d2] => { results := [.lit (.bool false)], args := [d1, d2] }
  | _ => none }
def FnExactIsNeededWrongFalsely : Prop := fnExactIsNeededRow.holds Try.pinned (OpenSpec.ofChange fnExactIsNeededWrong)

/-- 'laws.FnExactDualFamily': WHATEVER THE INPUT: true; the input reads as it did. -/
def fnExactDualFamilySpec : ChangeSpec := { name := "fnExactDualFamily", fn := fun _ => fun
  | [d] => { results := [.lit (.bool true)], args := [d] }
  | _ => none }
def fnExactDualFamilyRow : OpenClaim := { program := "ytbplifhgpbdmgaa", sum := "a761f6e533de03079b2df30eea716083f251149034b29299771a6274167bb09c", func := "loop.example/g01312/laws.FnExactDualFamily", spec := "fnExactDualFamily", unfollowed := true, recurses := true, apart := false }
def FnExactDualFamilySaid : Prop := fnExactDualFamilyRow.holds Try.pinned (OpenSpec.ofChange fnExactDualFamilySpec)

/-- ITS FALSE NEIGHBOUR: 'it returns false'. Refute it at one input. -/
def fnExactDualFamilyWrong : ChangeSpec := { name := "fnExactDualFamily", fn := fun _ => fun
  | [d] => { results := [.lit (.bool false)], args := [d] }
  | _ => none }
def FnExactDualFamilyWrongFalsely : Prop := fnExactDualFamilyRow.holds Try.pinned (OpenSpec.ofChange fnExactDualFamilyWrong)

/-- 'laws.FnExactJoinFamilies': WHATEVER THE INPUT: true; the input reads as it did. -/
def fnExactJoinFamiliesSpec : ChangeSpec := { name := "fnExactJoinFamilies", fn := fun _ => fun
  | [d1, d2] => { results := [.lit (.bool true)], args := [d1, d2] }
  | _ => none }
def fnExactJoinFamiliesRow : OpenClaim := { program := "ytbplifhgpbdmgaa", sum := "a761f6e533de03079b2df30eea716083f251149034b29299771a6274167bb09c", func := "loop.example/g01312/laws.FnExactJoinFamilies", spec := "fnExactJoinFamilies", apart := false }
def FnExactJoinFamiliesSaid : Prop := fnExactJoinFamiliesRow.holds Try.pinned (OpenSpec.ofChange fnExactJoinFamiliesSpec)

/-- ITS FALSE NEIGHBOUR: 'it returns false'. Refute it at one input. -/
def fnExactJoinFamiliesWrong : ChangeSpec := { name := "fnExactJoinFamilies", fn := fun _ => fun
  | [d1, d2] => { results := [.lit (.bool false)], args := [d1, d2] }
  | _ => none }
def FnExactJoinFamiliesWrongFalsely : Prop := fnExactJoinFamiliesRow.holds Try.pinned (OpenSpec.ofChange fnExactJoinFamiliesWrong)

/-- 'laws.FnExactMeetFamilies': WHATEVER THE INPUT: true; the input reads as it did. -/
def fnExactMeetFamiliesSpec : ChangeSpec := { name := "fnExactMeetFamilies", fn := fun _ => fun
  | [d1, d2] => { results := [.lit (.bool true)], args := [d1, d2] }
  | _ => none }
def fnExactMeetFamiliesRow : OpenClaim := { program := "ytbplifhgpbdmgaa", sum := "a761f6e533de03079b2df30eea716083f251149034b29299771a6274167bb09c", func := "loop.example/g01312/laws.FnExactMeetFamilies", spec := "fnExactMeetFamilies", apart := false }
def FnExactMeetFamiliesSaid : Prop := fnExactMeetFamiliesRow.holds Try.pinned (OpenSpec.ofChange fnExactMeetFamiliesSpec)

/-- ITS FALSE NEIGHBOUR: 'it returns false'. Refute it at one input. -/
def fnExactMeetFamiliesWrong : ChangeSpec := { name := "fnExactMeetFamilies", fn := fun _ => fun
  | [d1, d2] => { results := [.lit (.bool false)], args := [d1, d2] }
  | _ => none }
def FnExactMeetFamiliesWrongFalsely : Prop := fnExactMeetFamiliesRow.holds Try.pinned (OpenSpec.ofChange fnExactMeetFamiliesWrong)

/-- 'laws.FnExactPartsByOthers': WHATEVER THE INPUT: true; the input reads as it did. -/
def fnExactPartsByOthersSpec : ChangeSpec := { name := "fnExactPartsByOthers", fn := fun _ => fun
  | [d] => { results := [.lit (.bool true)], args := [d] }
  | _ => none }
def fnExactPartsByOthersRow : OpenClaim := { program := "ytbplifhgpbdmgaa", sum := "a761f6e533de03079b2df30eea716083f251149034b29299771a6274167bb09c", func := "loop.example/g01312/laws.FnExactPartsByOthers", spec := "fnExactPartsByOthers", apart := false }
def FnExactPartsByOthersSaid : Prop := fnExactPartsByOthersRow.holds Try.pinned (OpenSpec.ofChange fnExactPartsByOthersSpec)

/-- ITS FALSE NEIGHBOUR: 'it returns false'. Refute it at one input. -/
def fnExactPartsByOthersWrong : ChangeSpec := { name := "fnExactPartsByOthers", fn := fun _ => fun
  | [d] => { results := [.lit (.bool false)], args := [d] }
  | _ => none }
def FnExactPartsByOthersWrongFalsely : Prop := fnExactPartsByOthersRow.holds Try.pinned (OpenSpec.ofChange fnExactPartsByOthersWrong)

/-- 'laws.FnExactCountSets': WHATEVER THE INPUT: true; the input reads as it did. -/
def fnExactCountSetsSpec : ChangeSpec := { name := "fnExactCountSets", fn := fun _ => fun
  | [d] => { results := [.lit (.bool true)], args := [d] }
  | _ => none }
def fnExactCountSetsRow : OpenClaim := { program := "ytbplifhgpbdmgaa", sum := "a761f6e533de03079b2df30eea716083f251149034b29299771a6274167bb09c", func := "loop.example/g01312/laws.FnExactCountSets", spec := "fnExactCountSets", apart := false }
def FnExactCountSetsSaid : Prop := fnExactCountSetsRow.holds Try.pinned (OpenSpec.ofChange fnExactCountSetsSpec)

/-- ITS FALSE NEIGHBOUR: 'it returns false'. Refute it at one input. -/
def fnExactCountSetsWrong : ChangeSpec := { name := "fnExactCountSets", fn := fun _ => fun
  | [d] => { results := [.lit (.bool false)], args := [d] }
  | _ => none }
def FnExactCountSetsWrongFalsely : Prop := fnExactCountSetsRow.holds Try.pinned (OpenSpec.ofChange fnExactCountSetsWrong)

/-- 'laws.FnExactGreatestOthers': WHATEVER THE INPUT: true; the input reads as it did. -/
def fnExactGreatestOthersSpec : ChangeSpec := { name := "fnExactGreatestOthers", fn := fun _ => fun
  | [d] => { results := [.lit (.bool true)], args := [d] }
  | _ => none }
def fnExactGreatestOthersRow : OpenClaim := { program := "ytbplifhgpbdmgaa", sum := "a761f6e533de03079b2df30eea716083f251149034b29299771a6274167bb09c", func := "loop.example/g01312/laws.FnExactGreatestOthers", spec := "fnExactGreatestOthers", apart := false }
def FnExactGreatestOthersSaid : Prop := fnExactGreatestOthersRow.holds Try.pinned (OpenSpec.ofChange fnExactGreatestOthersSpec)

/-- ITS FALSE NEIGHBOUR: 'it returns false'. Refute it at one input. -/
def fnExactGreatestOthersWrong : ChangeSpec := { name := "fnExactGreatestOthers", fn := fun _ => fun
  | [d] => { results := [.lit (.bool false)], args := [d] }
  | _ => none }
def FnExactGreatestOthersWrongFalsely : Prop := fnExactGreatestOthersRow.holds Try.pinned (OpenSpec.ofChange fnExactGreatestOthersWrong)

/-- 'laws.FnExactPartsBySets': WHATEVER THE INPUT: true; the input reads as it did. -/
def fnExactPartsBySetsSpec : ChangeSpec := { name := "fnExactPartsBySets", fn := fun _ => fun
  | [d] => { results := [.lit (.bool true)], args := [d] }
  | _ => none }
def fnExactPartsBySetsRow : OpenClaim := { program := "ytbplifhgpbdmgaa", sum := "a761f6e533de03079b2df30eea716083f251149034b29299771a6274167bb09c", func := "loop.example/g01312/laws.FnExactPartsBySets", spec := "fnExactPartsBySets", apart := false }
def FnExactPartsBySetsSaid : Prop := fnExactPartsBySetsRow.holds Try.pinned (OpenSpec.ofChange fnExactPartsBySetsSpec)

/-- ITS FALSE NEIGHBOUR: 'it returns false'. Refute it at one input. -/
def fnExactPartsBySetsWrong : ChangeSpec := { name := "fnExactPartsBySets", fn := fun _ => fun
  | [d] => { results := [.lit (.bool false)], args := [d] }
  | _ => none }
def FnExactPartsBySetsWrongFalsely : Prop := fnExactPartsBySetsRow.holds Try.pinned (OpenSpec.ofChange fnExactPartsBySetsWrong)

/-- 'laws.FnExactLeastSets': WHATEVER THE INPUT: true; the input reads as it did. -/
def fnExactLeastSetsSpec : ChangeSpec := { name := "fnExactLeastSets", fn := fun _ => fun
  | [d] => { results := [.lit (.bool true)], args := [d] }
  | _ => none }
def fnExactLeastSetsRow : OpenClaim := { program := "ytbplifhgpbdmgaa", sum := "a761f6e533de03079b2df30eea716083f251149034b29299771a6274167bb09c", func := "loop.example/g01312/laws.FnExactLeastSets", spec := "fnExactLeastSets", apart := false }
def FnExactLeastSetsSaid : Prop := fnExactLeastSetsRow.holds Try.pinned (OpenSpec.ofChange fnExactLeastSetsSpec)

/-- ITS FALSE NEIGHBOUR: 'it returns false'. Refute it at one input. -/
def fnExactLeastSetsWrong : ChangeSpec := { name := "fnExactLeastSets", fn := fun _ => fun
  | [d] => { results := [.lit (.bool false)], args := [d] }
  | _ => none }
def FnExactLeastSetsWrongFalsely : Prop := fnExactLeastSetsRow.holds Try.pinned (OpenSpec.ofChange fnExactLeastSetsWrong)

/- THE SECOND FORM. 'bulk': how many values and letters a reading holds, each counted each time it is reached (what is shared counts as often as it is met; a slice's spare places count too). A statement '..UptoSaid' is the law's where the arguments, and the package variables that the reading takes, are together of bulk at most 1048576: NARROWER than '..Said'. Prove '..Said' where nothing that the law and all that it calls make is longer than what came in: it says more and counts as full. Else prove '..UptoSaid'. A law counts once. -/
mutual
def uptoBulk {H : Type} : DataW H → Nat
  | .lit (.string bytes) => bytes.length + 1
  | .lit _ => 1
  | .nil => 1
  | .ptr d => uptoBulk d + 1
  | .slice elems spare => uptoBulkAll elems + uptoBulkAll spare + 1
  | .agg parts => uptoBulkAll parts + 1
  | .iface _ d => uptoBulk d + 1
  | .map entries => uptoBulkEntries entries + 1
  | .held _ => 1
def uptoBulkAll {H : Type} : List (DataW H) → Nat
  | [] => 0
  | d :: r => uptoBulk d + uptoBulkAll r
def uptoBulkEntries {H : Type} : List (Lit × DataW H) → Nat
  | [] => 0
  | x :: r => uptoBulkEntry x + uptoBulkEntries r
def uptoBulkEntry {H : Type} : Lit × DataW H → Nat
  | (.string bytes, d) => bytes.length + uptoBulk d + 1
  | (_, d) => uptoBulk d + 1
 end
def uptoSmall : (H : Type) → List (DataW H) → Bool := fun _ ds => decide (uptoBulkAll ds ≤ 1048576)
def OpenSpec.upto (s : _root_.Go.ChangeSpec) : _root_.Go.OpenSpec := { _root_.Go.OpenSpec.ofChange s with cond := some uptoSmall }

/-- 'laws.FnExactValidFamily', WHERE WHAT IT READS IS OF BULK AT MOST 1048576: true; the input reads as it did. -/
def fnExactValidFamilyUptoRow : OpenClaim := { program := "ytbplifhgpbdmgaa", sum := "a761f6e533de03079b2df30eea716083f251149034b29299771a6274167bb09c", func := "loop.example/g01312/laws.FnExactValidFamily", spec := "fnExactValidFamily", apart := false, narrowed := true }
def FnExactValidFamilyUptoSaid : Prop := fnExactValidFamilyUptoRow.holds Try.pinned (OpenSpec.upto fnExactValidFamilySpec)

/-- 'laws.FnExactHasSet', WHERE WHAT IT READS IS OF BULK AT MOST 1048576: true; the input reads as it did. -/
def fnExactHasSetUptoRow : OpenClaim := { program := "ytbplifhgpbdmgaa", sum := "a761f6e533de03079b2df30eea716083f251149034b29299771a6274167bb09c", func := "loop.example/g01312/laws.FnExactHasSet", spec := "fnExactHasSet", apart := false, narrowed := true }
def FnExactHasSetUptoSaid : Prop := fnExactHasSetUptoRow.holds Try.pinned (OpenSpec.upto fnExactHasSetSpec)

/-- 'laws.FnExactThresholdOf', WHERE WHAT IT READS IS OF BULK AT MOST 1048576: true; the input reads as it did. -/
def fnExactThresholdOfUptoRow : OpenClaim := { program := "ytbplifhgpbdmgaa", sum := "a761f6e533de03079b2df30eea716083f251149034b29299771a6274167bb09c", func := "loop.example/g01312/laws.FnExactThresholdOf", spec := "fnExactThresholdOf", unfollowed := true, recurses := true, apart := false, narrowed := true }
def FnExactThresholdOfUptoSaid : Prop := fnExactThresholdOfUptoRow.holds Try.pinned (OpenSpec.upto fnExactThresholdOfSpec)

/-- 'laws.FnExactIsNeeded', WHERE WHAT IT READS IS OF BULK AT MOST 1048576: true; the input reads as it did. -/
def fnExactIsNeededUptoRow : OpenClaim := { program := "ytbplifhgpbdmgaa", sum := "a761f6e533de03079b2df30eea716083f251149034b29299771a6274167bb09c", func := "loop.example/g01312/laws.FnExactIsNeeded", spec := "fnExactIsNeeded", apart := false, narrowed := true }
def FnExactIsNeededUptoSaid : Prop := fnExactIsNeededUptoRow.holds Try.pinned (OpenSpec.upto fnExactIsNeededSpec)

/-- 'laws.FnExactDualFamily', WHERE WHAT IT READS IS OF BULK AT MOST 1048576: true; the input reads as it did. -/
def fnExactDualFamilyUptoRow : OpenClaim := { program := "ytbplifhgpbdmgaa", sum := "a761f6e533de03079b2df30eea716083f251149034b29299771a6274167bb09c", func := "loop.example/g01312/laws.FnExactDualFamily", spec := "fnExactDualFamily", unfollowed := true, recurses := true, apart := false, narrowed := true }
def FnExactDualFamilyUptoSaid : Prop := fnExactDualFamilyUptoRow.holds Try.pinned (OpenSpec.upto fnExactDualFamilySpec)

/-- 'laws.FnExactJoinFamilies', WHERE WHAT IT READS IS OF BULK AT MOST 1048576: true; the input reads as it did. -/
def fnExactJoinFamiliesUptoRow : OpenClaim := { program := "ytbplifhgpbdmgaa", sum := "a761f6e533de03079b2df30eea716083f251149034b29299771a6274167bb09c", func := "loop.example/g01312/laws.FnExactJoinFamilies", spec := "fnExactJoinFamilies", apart := false, narrowed := true }
def FnExactJoinFamiliesUptoSaid : Prop := fnExactJoinFamiliesUptoRow.holds Try.pinned (OpenSpec.upto fnExactJoinFamiliesSpec)

/-- 'laws.FnExactMeetFamilies', WHERE WHAT IT READS IS OF BULK AT MOST 1048576: true; the input reads as it did. -/
def fnExactMeetFamiliesUptoRow : OpenClaim := { program := "ytbplifhgpbdmgaa", sum := "a761f6e533de03079b2df30eea716083f251149034b29299771a6274167bb09c", func := "loop.example/g01312/laws.FnExactMeetFamilies", spec := "fnExactMeetFamilies", apart := false, narrowed := true }
def FnExactMeetFamiliesUptoSaid : Prop := fnExactMeetFamiliesUptoRow.holds Try.pinned (OpenSpec.upto fnExactMeetFamiliesSpec)

/-- 'laws.FnExactPartsByOthers', WHERE WHAT IT READS IS OF BULK AT MOST 1048576: true; the input reads as it did. -/
def fnExactPartsByOthersUptoRow : OpenClaim := { program := "ytbplifhgpbdmgaa", sum := "a761f6e533de03079b2df30eea716083f251149034b29299771a6274167bb09c", func := "loop.example/g01312/laws.FnExactPartsByOthers", spec := "fnExactPartsByOthers", apart := false, narrowed := true }
def FnExactPartsByOthersUptoSaid : Prop := fnExactPartsByOthersUptoRow.holds Try.pinned (OpenSpec.upto fnExactPartsByOthersSpec)

/-- 'laws.FnExactCountSets', WHERE WHAT IT READS IS OF BULK AT MOST 1048576: true; the input reads as it did. -/
def fnExactCountSetsUptoRow : OpenClaim := { program := "ytbplifhgpbdmgaa", sum := "a761f6e533de03079b2df30eea716083f251149034b29299771a6274167bb09c", func := "loop.example/g01312/laws.FnExactCountSets", spec := "fnExactCountSets", apart := false, narrowed := true }
def FnExactCountSetsUptoSaid : Prop := fnExactCountSetsUptoRow.holds Try.pinned (OpenSpec.upto fnExactCountSetsSpec)

/-- 'laws.FnExactGreatestOthers', WHERE WHAT IT READS IS OF BULK AT MOST 1048576: true; the input reads as it did. -/
def fnExactGreatestOthersUptoRow : OpenClaim := { program := "ytbplifhgpbdmgaa", sum := "a761f6e533de03079b2df30eea716083f251149034b29299771a6274167bb09c", func := "loop.example/g01312/laws.FnExactGreatestOthers", spec := "fnExactGreatestOthers", apart := false, narrowed := true }
def FnExactGreatestOthersUptoSaid : Prop := fnExactGreatestOthersUptoRow.holds Try.pinned (OpenSpec.upto fnExactGreatestOthersSpec)

/-- 'laws.FnExactPartsBySets', WHERE WHAT IT READS IS OF BULK AT MOST 1048576: true; the input reads as it did. -/
def fnExactPartsBySetsUptoRow : OpenClaim := { program := "ytbplifhgpbdmgaa", sum := "a761f6e533de03079b2df30eea716083f251149034b29299771a6274167bb09c", func := "loop.example/g01312/laws.FnExactPartsBySets", spec := "fnExactPartsBySets", apart := false, narrowed := true }
def FnExactPartsBySetsUptoSaid : Prop := fnExactPartsBySetsUptoRow.holds Try.pinned (OpenSpec.upto fnExactPartsBySetsSpec)

/-- 'laws.FnExactLeastSets', WHERE WHAT IT READS IS OF BULK AT MOST 1048576: true; the input reads as it did. -/
def fnExactLeastSetsUptoRow : OpenClaim := { program := "ytbplifhgpbdmgaa", sum := "a761f6e533de03079b2df30eea716083f251149034b29299771a6274167bb09c", func := "loop.example/g01312/laws.FnExactLeastSets", spec := "fnExactLeastSets", apart := false, narrowed := true }
def FnExactLeastSetsUptoSaid : Prop := fnExactLeastSetsUptoRow.holds Try.pinned (OpenSpec.upto fnExactLeastSetsSpec)

end Rows
end Go.Proofs.Ytbplifhgpbdmgaa
