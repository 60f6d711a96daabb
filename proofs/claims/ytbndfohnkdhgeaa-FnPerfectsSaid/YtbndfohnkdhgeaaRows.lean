/-
  No cell of these rows narrows 'for every input' (looked for: loops, veiled, ifaces, maps, wideKeys, modest, calm, conditions, laid).
  DERIVED. THE GIVEN ROWS OF THIS SEAT. 13 by the template 'for every input the law returns true; each argument reads behind the call as it read before'; 0 by the template 'total and deterministic' (their statements: YtbndfohnkdhgeaaTotals.lean).
  GIVEN WITH THE SEED: the statements are not yours to turn. If you find one false, say at which input.
  Laid BY PROGRAM, IN A SANDBOX (cutbox-rows.mjs): the forced cells as the released guide's own fill.sh prints them over the translation 4da9cfce79273fb0… (all of the seat's roots in one cut). By AI agents, Wed Nov 11 2026. No macro, syntax, notation, axiom, sorry.
-/
import Derived.Test.YtbndfohnkdhgeaaChecked
import GoSem.Claim
import GoSem.ClaimJoined
import GoSem.ClaimMapViews
import Derived.JoinedTies
import Derived.KernelRfl
namespace Go.Proofs.Ytbndfohnkdhgeaa
/- THE CELL 'sum', in the pinned program and in every row, IS THE sha256 OF THE DUMP (.gsa) THAT YtbndfohnkdhgeaaProg.lean LOADS. Nothing in Lean hashes anything: it is a label: what it is worth is what the hold of that sum in a sandbox is worth. -/
noncomputable def Try.pinned : Pinned := { name := "ytbndfohnkdhgeaa", sum := "4da9cfce79273fb09345943984818dac878dae0660958dbfc2f62781d14294b6", checked := Try.checked }
namespace Rows
def none {H : Type} : Left H := { results := [], args := [] }

/-- 'laws.FnExactSetOk': WHATEVER THE INPUT: true; the input reads as it did. -/
def fnExactSetOkSpec : ChangeSpec := { name := "fnExactSetOk", fn := fun _ => fun
  | [d] => { results := [.lit (.bool true)], args := [d] }
  | _ => none }
def fnExactSetOkRow : OpenClaim := { program := "ytbndfohnkdhgeaa", sum := "4da9cfce79273fb09345943984818dac878dae0660958dbfc2f62781d14294b6", func := "loop.example/g00992/laws.FnExactSetOk", spec := "fnExactSetOk", apart := false }
def FnExactSetOkSaid : Prop := fnExactSetOkRow.holds Try.pinned (OpenSpec.ofChange fnExactSetOkSpec)

/-- ITS FALSE NEIGHBOUR: 'it returns false'. Refute it at one input. -/
def fnExactSetOkWrong : ChangeSpec := { name := "fnExactSetOk", fn := fun _ => fun
  | [d] => { results := [.lit (.bool false)], args := [d] }
  | _ => none }
def FnExactSetOkWrongFalsely : Prop := fnExactSetOkRow.holds Try.pinned (OpenSpec.ofChange fnExactSetOkWrong)

/-- 'laws.FnExactOnePan': WHATEVER THE INPUT: true; the input reads as it did. -/
def fnExactOnePanSpec : ChangeSpec := { name := "fnExactOnePan", fn := fun _ => fun
  | [d1, d2] => { results := [.lit (.bool true)], args := [d1, d2] }
  | _ => none }
def fnExactOnePanRow : OpenClaim := { program := "ytbndfohnkdhgeaa", sum := "4da9cfce79273fb09345943984818dac878dae0660958dbfc2f62781d14294b6", func := "loop.example/g00992/laws.FnExactOnePan", spec := "fnExactOnePan", apart := false }
def FnExactOnePanSaid : Prop := fnExactOnePanRow.holds Try.pinned (OpenSpec.ofChange fnExactOnePanSpec)

/-- ITS FALSE NEIGHBOUR: 'it returns false'. Refute it at one input. -/
def fnExactOnePanWrong : ChangeSpec := { name := "fnExactOnePan", fn := fun _ => fun
  | [d1, d2] => { results := [.lit (.bool false)], args := [d1, d2] }
  | _ => none }
def FnExactOnePanWrongFalsely : Prop := fnExactOnePanRow.holds Try.pinned (OpenSpec.ofChange fnExactOnePanWrong)

/-- 'laws.FnExactTwoPans': WHATEVER THE INPUT: true; the input reads as it did. -/
def fnExactTwoPansSpec : ChangeSpec := { name := "fnExactTwoPans", fn := fun _ => fun
  | [d1, d2] => { results := [.lit (.bool true)], args := [d1, d2] }
  | _ => none }
def fnExactTwoPansRow : OpenClaim := { program := "ytbndfohnkdhgeaa", sum := "4da9cfce79273fb09345943984818dac878dae0660958dbfc2f62781d14294b6", func := "loop.example/g00992/laws.FnExactTwoPans", spec := "fnExactTwoPans", apart := false }
def FnExactTwoPansSaid : Prop := fnExactTwoPansRow.holds Try.pinned (OpenSpec.ofChange fnExactTwoPansSpec)

/-- ITS FALSE NEIGHBOUR: 'it returns false'. Refute it at one input. -/
def fnExactTwoPansWrong : ChangeSpec := { name := "fnExactTwoPans", fn := fun _ => fun
  | [d1, d2] => { results := [.lit (.bool false)], args := [d1, d2] }
  | _ => none }
def FnExactTwoPansWrongFalsely : Prop := fnExactTwoPansRow.holds Try.pinned (OpenSpec.ofChange fnExactTwoPansWrong)

/-- 'laws.FnExactWaysOf': WHATEVER THE INPUT: true; the input reads as it did. -/
def fnExactWaysOfSpec : ChangeSpec := { name := "fnExactWaysOf", fn := fun _ => fun
  | [d1, d2] => { results := [.lit (.bool true)], args := [d1, d2] }
  | _ => none }
def fnExactWaysOfRow : OpenClaim := { program := "ytbndfohnkdhgeaa", sum := "4da9cfce79273fb09345943984818dac878dae0660958dbfc2f62781d14294b6", func := "loop.example/g00992/laws.FnExactWaysOf", spec := "fnExactWaysOf", apart := false }
def FnExactWaysOfSaid : Prop := fnExactWaysOfRow.holds Try.pinned (OpenSpec.ofChange fnExactWaysOfSpec)

/-- ITS FALSE NEIGHBOUR: 'it returns false'. Refute it at one input. -/
def fnExactWaysOfWrong : ChangeSpec := { name := "fnExactWaysOf", fn := fun _ => fun
  | [d1, d2] => { results := [.lit (.bool false)], args := [d1, d2] }
  | _ => none }
def FnExactWaysOfWrongFalsely : Prop := fnExactWaysOfRow.holds Try.pinned (OpenSpec.ofChange fnExactWaysOfWrong)

/-- 'laws.FnExactReachOf': WHATEVER THE INPUT: true; the input reads as it did. -/
def fnExactReachOfSpec : ChangeSpec := { name := "fnExactReachOf", fn := fun _ => fun
  | [d1, d2] => { results := [.lit (.bool true)], args := [d1, d2] }
  | _ => none }
def fnExactReachOfRow : OpenClaim := { program := "ytbndfohnkdhgeaa", sum := "4da9cfce79273fb09345943984818dac878dae0660958dbfc2f62781d14294b6", func := "loop.example/g00992/laws.FnExactReachOf", spec := "fnExactReachOf", apart := false }
def FnExactReachOfSaid : Prop := fnExactReachOfRow.holds Try.pinned (OpenSpec.ofChange fnExactReachOfSpec)

/-- ITS FALSE NEIGHBOUR: 'it returns false'. Refute it at one input. -/
def fnExactReachOfWrong : ChangeSpec := { name := "fnExactReachOf", fn := fun _ => fun
  | [d1, d2] => { results := [.lit (.bool false)], args := [d1, d2] }
  | _ => none }
def FnExactReachOfWrongFalsely : Prop := fnExactReachOfRow.holds Try.pinned (OpenSpec.ofChange fnExactReachOfWrong)

/-- 'laws.FnExactLeastMissing': WHATEVER THE INPUT: true; the input reads as it did. -/
def fnExactLeastMissingSpec : ChangeSpec := { name := "fnExactLeastMissing", fn := fun _ => fun
  | [d] => { results := [.lit (.bool true)], args := [d] }
  | _ => none }
def fnExactLeastMissingRow : OpenClaim := { program := "ytbndfohnkdhgeaa", sum := "4da9cfce79273fb09345943984818dac878dae0660958dbfc2f62781d14294b6", func := "loop.example/g00992/laws.FnExactLeastMissing", spec := "fnExactLeastMissing", apart := false }
def FnExactLeastMissingSaid : Prop := fnExactLeastMissingRow.holds Try.pinned (OpenSpec.ofChange fnExactLeastMissingSpec)

/-- ITS FALSE NEIGHBOUR: 'it returns false'. Refute it at one input. -/
def fnExactLeastMissingWrong : ChangeSpec := { name := "fnExactLeastMissing", fn := fun _ => fun
  | [d] => { results := [.lit (.bool false)], args := [d] }
  | _ => none }
def FnExactLeastMissingWrongFalsely : Prop := fnExactLeastMissingRow.holds Try.pinned (OpenSpec.ofChange fnExactLeastMissingWrong)

/-- 'laws.FnSets': WHATEVER THE INPUT: true; the input reads as it did. -/
def fnSetsSpec : ChangeSpec := { name := "fnSets", fn := fun _ => fun
  | [d] => { results := [.lit (.bool true)], args := [d] }
  | _ => none }
def fnSetsRow : OpenClaim := { program := "ytbndfohnkdhgeaa", sum := "4da9cfce79273fb09345943984818dac878dae0660958dbfc2f62781d14294b6", func := "loop.example/g00992/laws.FnSets", spec := "fnSets", apart := false }
def FnSetsSaid : Prop := fnSetsRow.holds Try.pinned (OpenSpec.ofChange fnSetsSpec)

/-- ITS FALSE NEIGHBOUR: 'it returns false'. Refute it at one input. -/
def fnSetsWrong : ChangeSpec := { name := "fnSets", fn := fun _ => fun
  | [d] => { results := [.lit (.bool false)], args := [d] }
  | _ => none }
def FnSetsWrongFalsely : Prop := fnSetsRow.holds Try.pinned (OpenSpec.ofChange fnSetsWrong)

/-- 'laws.FnExactSumWays': WHATEVER THE INPUT: true; the input reads as it did. -/
def fnExactSumWaysSpec : ChangeSpec := { name := "fnExactSumWays", fn := fun _ => fun
  | [d1, d2] => { results := [.lit (.bool true)], args := [d1, d2] }
  | _ => none }
def fnExactSumWaysRow : OpenClaim := { program := "ytbndfohnkdhgeaa", sum := "4da9cfce79273fb09345943984818dac878dae0660958dbfc2f62781d14294b6", func := "loop.example/g00992/laws.FnExactSumWays", spec := "fnExactSumWays", apart := false }
def FnExactSumWaysSaid : Prop := fnExactSumWaysRow.holds Try.pinned (OpenSpec.ofChange fnExactSumWaysSpec)

/-- ITS FALSE NEIGHBOUR: 'it returns false'. Refute it at one input. -/
def fnExactSumWaysWrong : ChangeSpec := { name := "fnExactSumWays", fn := fun _ => fun
  | [d1, d2] => { results := [.lit (.bool false)], args := [d1, d2] }
  | _ => none }
def FnExactSumWaysWrongFalsely : Prop := fnExactSumWaysRow.holds Try.pinned (OpenSpec.ofChange fnExactSumWaysWrong)

/-- 'laws.FnExactIsComplete': WHATEVER THE INPUT: true; the input reads as it did. -/
def fnExactIsCompleteSpec : ChangeSpec := { name := "fnExactIsComplete", fn := fun _ => fun
  | [d] => { results := [.lit (.bool true)], args := [d] }
  | _ => none }
def fnExactIsCompleteRow : OpenClaim := { program := "ytbndfohnkdhgeaa", sum := "4da9cfce79273fb09345943984818dac878dae0660958dbfc2f62781d14294b6", func := "loop.example/g00992/laws.FnExactIsComplete", spec := "fnExactIsComplete", apart := false }
def FnExactIsCompleteSaid : Prop := fnExactIsCompleteRow.holds Try.pinned (OpenSpec.ofChange fnExactIsCompleteSpec)

/-- ITS FALSE NEIGHBOUR: 'it returns false'. Refute it at one input. -/
def fnExactIsCompleteWrong : ChangeSpec := { name := "fnExactIsComplete", fn := fun _ => fun
  | [d] => { results := [.lit (.bool false)], args := [d] }
  | _ => none }
def FnExactIsCompleteWrongFalsely : Prop := fnExactIsCompleteRow.holds Try.pinned (OpenSpec.ofChange fnExactIsCompleteWrong)

/-- 'laws.FnExactIsPerfectSet': WHATEVER THE INPUT: true; the input reads as it did. -/
def fnExactIsPerfectSetSpec : ChangeSpec := { name := "fnExactIsPerfectSet", fn := fun _ => fun
  | [d] => { results := [.lit (.bool true)], args := [d] }
  | _ => none }
def fnExactIsPerfectSetRow : OpenClaim := { program := "ytbndfohnkdhgeaa", sum := "4da9cfce79273fb09345943984818dac878dae0660958dbfc2f62781d14294b6", func := "loop.example/g00992/laws.FnExactIsPerfectSet", spec := "fnExactIsPerfectSet", apart := false }
def FnExactIsPerfectSetSaid : Prop := fnExactIsPerfectSetRow.holds Try.pinned (OpenSpec.ofChange fnExactIsPerfectSetSpec)

/-- ITS FALSE NEIGHBOUR: 'it returns false'. Refute it at one input. -/
def fnExactIsPerfectSetWrong : ChangeSpec := { name := "fnExactIsPerfectSet", fn := fun _ => fun
  | [d] => { results := [.lit (.bool false)], args := [d] }
  | _ => none }
def FnExactIsPerfectSetWrongFalsely : Prop := fnExactIsPerfectSetRow.holds Try.pinned (OpenSpec.ofChange fnExactIsPerfectSetWrong)

/-- 'laws.FnExactPerfectLists': WHATEVER THE INPUT: true; the input reads as it did. -/
def fnExactPerfectListsSpec : ChangeSpec := { name := "fnExactPerfectLists", fn := fun _ => fun
  | [d] => { results := [.lit (.bool true)], args := [d] }
  | _ => none }
def fnExactPerfectListsRow : OpenClaim := { program := "ytbndfohnkdhgeaa", sum := "4da9cfce79273fb09345943984818dac878dae0660958dbfc2f62781d14294b6", func := "loop.example/g00992/laws.FnExactPerfectLists", spec := "fnExactPerfectLists", recurses := true, apart := false }
def FnExactPerfectListsSaid : Prop := fnExactPerfectListsRow.holds Try.pinned (OpenSpec.ofChange fnExactPerfectListsSpec)

/-- ITS FALSE NEIGHBOUR: 'it returns false'. Refute it at one input. -/
def fnExactPerfectListsWrong : ChangeSpec := { name := "fnExactPerfectLists", fn := fun _ => fun
  | [d] => { results := [.lit (.bool false)], args := [d] }
  | _ => none }
def FnExactPerfectListsWrongFalsely : Prop := fnExactPerfectListsRow.holds Try.pinned (OpenSpec.ofChange fnExactPerfectListsWrong)

/-- 'laws.FnExactOrderedFactors': WHATEVER THE INPUT: true; the input reads as it did. -/
def fnExactOrderedFactorsSpec : ChangeSpec := { name := "fnExactOrderedFactors", fn := fun _ => fun
  | [d] => { results := [.lit (.bool true)], args := [d] }
  | _ => none }
def fnExactOrderedFactorsRow : OpenClaim := { program := "ytbndfohnkdhgeaa", sum := "4da9cfce79273fb09345943984818dac878dae0660958dbfc2f62781d14294b6", func := "loop.example/g00992/laws.FnExactOrderedFactors", spec := "fnExactOrderedFactors", recurses := true, apart := false }
def FnExactOrderedFactorsSaid : Prop := fnExactOrderedFactorsRow.holds Try.pinned (OpenSpec.ofChange fnExactOrderedFactorsSpec)

/-- ITS FALSE NEIGHBOUR: 'it returns false'. Refute it at one input. -/
def fnExactOrderedFactorsWrong : ChangeSpec := { name := "fnExactOrderedFactors", fn := fun _ => fun
  | [d] => { results := [.lit (.bool false)], args := [d] }
  | _ => none }
def FnExactOrderedFactorsWrongFalsely : Prop := fnExactOrderedFactorsRow.holds Try.pinned (OpenSpec.ofChange fnExactOrderedFactorsWrong)

/-- 'laws.FnPerfects': WHATEVER THE INPUT: true; the input reads as it did. -/
def fnPerfectsSpec : ChangeSpec := { name := "fnPerfects", fn := fun _ => fun
  | [d] => { results := [.lit (.bool true)], args := [d] }
  | _ => none }
def fnPerfectsRow : OpenClaim := { program := "ytbndfohnkdhgeaa", sum := "4da9cfce79273fb09345943984818dac878dae0660958dbfc2f62781d14294b6", func := "loop.example/g00992/laws.FnPerfects", spec := "fnPerfects", recurses := true, apart := false }
def FnPerfectsSaid : Prop := fnPerfectsRow.holds Try.pinned (OpenSpec.ofChange fnPerfectsSpec)

/-- ITS FALSE NEIGHBOUR: 'it returns false'. Refute it at one input. -/
def fnPerfectsWrong : ChangeSpec := { name := "fnPerfects", fn := fun _ => fun
  | [d] => { results := [.lit (.bool false)], args := [d] }
  | _ => none }
def FnPerfectsWrongFalsely : Prop := fnPerfectsRow.holds Try.pinned (OpenSpec.ofChange fnPerfectsWrong)

/- THE SECOND FORM. 'bulk': how many values and letters a reading holds, each counted each time it is reached (what is shared counts as often as it is met; a slice's spare places count too). A statement '..UptoSaid' is the law's where the arguments, and the package variables that the reading takes, are together of bulk at most 1048576: NARROWER than '..Said'. Prove '..Said' where nothing that the law and all that it calls make is longer than what came in: it says more and counts as full. Else prove '..UptoSaid'. A law counts once. -/
mutual
def uptoBulk {H : Type} : DataW H → Nat
  | .lit (.string bytes) => bytes.length + 1
  | .lit _ => 1
  | .nil => 1
  | .ptr d => uptoBulk d + 1
  | .slice elems spare => uptoBulkAll elems + uptoBulkAll spare + 1
  | .agg parts => uptoBulkAll parts + 1
  | .iface _ d => uptoBulk d + 1
  | .map entries => uptoBulkEntries entries + 1
  | .held _ => 1
def uptoBulkAll {H : Type} : List (DataW H) → Nat
  | [] => 0
  | d :: r => uptoBulk d + uptoBulkAll r
def uptoBulkEntries {H : Type} : List (Lit × DataW H) → Nat
  | [] => 0
  | x :: r => uptoBulkEntry x + uptoBulkEntries r
def uptoBulkEntry {H : Type} : Lit × DataW H → Nat
  | (.string bytes, d) => bytes.length + uptoBulk d + 1
  | (_, d) => uptoBulk d + 1
 end
def uptoSmall : (H : Type) → List (DataW H) → Bool := fun _ ds => decide (uptoBulkAll ds ≤ 1048576)
def OpenSpec.upto (s : _root_.Go.ChangeSpec) : _root_.Go.OpenSpec := { _root_.Go.OpenSpec.ofChange s with cond := some uptoSmall }

/-- 'laws.FnExactSetOk', WHERE WHAT IT READS IS OF BULK AT MOST 1048576: true; the input reads as it did. -/
def fnExactSetOkUptoRow : OpenClaim := { program := "ytbndfohnkdhgeaa", sum := "4da9cfce79273fb09345943984818dac878dae0660958dbfc2f62781d14294b6", func := "loop.example/g00992/laws.FnExactSetOk", spec := "fnExactSetOk", apart := false, narrowed := true }
def FnExactSetOkUptoSaid : Prop := fnExactSetOkUptoRow.holds Try.pinned (OpenSpec.upto fnExactSetOkSpec)

/-- 'laws.FnExactOnePan', WHERE WHAT IT READS IS OF BULK AT MOST 1048576: true; the input reads as it did. -/
def fnExactOnePanUptoRow : OpenClaim := { program := "ytbndfohnkdhgeaa", sum := "4da9cfce79273fb09345943984818dac878dae0660958dbfc2f62781d14294b6", func := "loop.example/g00992/laws.FnExactOnePan", spec := "fnExactOnePan", apart := false, narrowed := true }
def FnExactOnePanUptoSaid : Prop := fnExactOnePanUptoRow.holds Try.pinned (OpenSpec.upto fnExactOnePanSpec)

/-- 'laws.FnExactTwoPans', WHERE WHAT IT READS IS OF BULK AT MOST 1048576: true; the input reads as it did. -/
def fnExactTwoPansUptoRow : OpenClaim := { program := "ytbndfohnkdhgeaa", sum := "4da9cfce79273fb09345943984818dac878dae0660958dbfc2f62781d14294b6", func := "loop.example/g00992/laws.FnExactTwoPans", spec := "fnExactTwoPans", apart := false, narrowed := true }
def FnExactTwoPansUptoSaid : Prop := fnExactTwoPansUptoRow.holds Try.pinned (OpenSpec.upto fnExactTwoPansSpec)

/-- 'laws.FnExactWaysOf', WHERE WHAT IT READS IS OF BULK AT MOST 1048576: true; the input reads as it did. -/
def fnExactWaysOfUptoRow : OpenClaim := { program := "ytbndfohnkdhgeaa", sum := "4da9cfce79273fb09345943984818dac878dae0660958dbfc2f62781d14294b6", func := "loop.example/g00992/laws.FnExactWaysOf", spec := "fnExactWaysOf", apart := false, narrowed := true }
def FnExactWaysOfUptoSaid : Prop := fnExactWaysOfUptoRow.holds Try.pinned (OpenSpec.upto fnExactWaysOfSpec)

/-- 'laws.FnExactReachOf', WHERE WHAT IT READS IS OF BULK AT MOST 1048576: true; the input reads as it did. -/
def fnExactReachOfUptoRow : OpenClaim := { program := "ytbndfohnkdhgeaa", sum := "4da9cfce79273fb09345943984818dac878dae0660958dbfc2f62781d14294b6", func := "loop.example/g00992/laws.FnExactReachOf", spec := "fnExactReachOf", apart := false, narrowed := true }
def FnExactReachOfUptoSaid : Prop := fnExactReachOfUptoRow.holds Try.pinned (OpenSpec.upto fnExactReachOfSpec)

/-- 'laws.FnExactLeastMissing', WHERE WHAT IT READS IS OF BULK AT MOST 1048576: true; the input reads as it did. -/
def fnExactLeastMissingUptoRow : OpenClaim := { program := "ytbndfohnkdhgeaa", sum := "4da9cfce79273fb09345943984818dac878dae0660958dbfc2f62781d14294b6", func := "loop.example/g00992/laws.FnExactLeastMissing", spec := "fnExactLeastMissing", apart := false, narrowed := true }
def FnExactLeastMissingUptoSaid : Prop := fnExactLeastMissingUptoRow.holds Try.pinned (OpenSpec.upto fnExactLeastMissingSpec)

/-- 'laws.FnSets', WHERE WHAT IT READS IS OF BULK AT MOST 1048576: true; the input reads as it did. -/
def fnSetsUptoRow : OpenClaim := { program := "ytbndfohnkdhgeaa", sum := "4da9cfce79273fb09345943984818dac878dae0660958dbfc2f62781d14294b6", func := "loop.example/g00992/laws.FnSets", spec := "fnSets", apart := false, narrowed := true }
def FnSetsUptoSaid : Prop := fnSetsUptoRow.holds Try.pinned (OpenSpec.upto fnSetsSpec)

/-- 'laws.FnExactSumWays', WHERE WHAT IT READS IS OF BULK AT MOST 1048576: true; the input reads as it did. -/
def fnExactSumWaysUptoRow : OpenClaim := { program := "ytbndfohnkdhgeaa", sum := "4da9cfce79273fb09345943984818dac878dae0660958dbfc2f62781d14294b6", func := "loop.example/g00992/laws.FnExactSumWays", spec := "fnExactSumWays", apart := false, narrowed := true }
def FnExactSumWaysUptoSaid : Prop := fnExactSumWaysUptoRow.holds Try.pinned (OpenSpec.upto fnExactSumWaysSpec)

/-- 'laws.FnExactIsComplete', WHERE WHAT IT READS IS OF BULK AT MOST 1048576: true; the input reads as it did. -/
def fnExactIsCompleteUptoRow : OpenClaim := { program := "ytbndfohnkdhgeaa", sum := "4da9cfce79273fb09345943984818dac878dae0660958dbfc2f62781d14294b6", func := "loop.example/g00992/laws.FnExactIsComplete", spec := "fnExactIsComplete", apart := false, narrowed := true }
def FnExactIsCompleteUptoSaid : Prop := fnExactIsCompleteUptoRow.holds Try.pinned (OpenSpec.upto fnExactIsCompleteSpec)

/-- 'laws.FnExactIsPerfectSet', WHERE WHAT IT READS IS OF BULK AT MOST 1048576: true; the input reads as it did. -/
def fnExactIsPerfectSetUptoRow : OpenClaim := { program := "ytbndfohnkdhgeaa", sum := "4da9cfce79273fb09345943984818dac878dae0660958dbfc2f62781d14294b6", func := "loop.example/g00992/laws.FnExactIsPerfectSet", spec := "fnExactIsPerfectSet", apart := false, narrowed := true }
def FnExactIsPerfectSetUptoSaid : Prop := fnExactIsPerfectSetUptoRow.holds Try.pinned (OpenSpec.upto fnExactIsPerfectSetSpec)

/-- 'laws.FnExactPerfectLists', WHERE WHAT IT READS IS OF BULK AT MOST 1048576: true; the input reads as it did. -/
def fnExactPerfectListsUptoRow : OpenClaim := { program := "ytbndfohnkdhgeaa", sum := "4da9cfce79273fb09345943984818dac878dae0660958dbfc2f62781d14294b6", func := "loop.example/g00992/laws.FnExactPerfectLists", spec := "fnExactPerfectLists", recurses := true, apart := false, narrowed := true }
def FnExactPerfectListsUptoSaid : Prop := fnExactPerfectListsUptoRow.holds Try.pinned (OpenSpec.upto fnExactPerfectListsSpec)

/-- 'laws.FnExactOrderedFactors', WHERE WHAT IT READS IS OF BULK AT MOST 1048576: true; the input reads as it did. -/
def fnExactOrderedFactorsUptoRow : OpenClaim := { program := "ytbndfohnkdhgeaa", sum := "4da9cfce79273fb09345943984818dac878dae0660958dbfc2f62781d14294b6", func := "loop.example/g00992/laws.FnExactOrderedFactors", spec := "fnExactOrderedFactors", recurses := true, apart := false, narrowed := true }
def FnExactOrderedFactorsUptoSaid : Prop := fnExactOrderedFactorsUptoRow.holds Try.pinned (OpenSpec.upto fnExactOrderedFactorsSpec)

/-- 'laws.FnPerfects', WHERE WHAT IT READS IS OF BULK AT MOST 1048576: true; the input reads as it did. -/
def fnPerfectsUptoRow : OpenClaim := { program := "ytbndfohnkdhgeaa", sum := "4da9cfce79273fb09345943984818dac878dae0660958dbfc2f62781d14294b6", func := "loop.example/g00992/laws.FnPerfects", spec := "fnPerfects", recurses := true, apart := false, narrowed := true }
def FnPerfectsUptoSaid : Prop := fnPerfectsUptoRow.holds Try.pinned (OpenSpec.upto fnPerfectsSpec)

end Rows
end Go.Proofs.Ytbndfohnkdhgeaa
