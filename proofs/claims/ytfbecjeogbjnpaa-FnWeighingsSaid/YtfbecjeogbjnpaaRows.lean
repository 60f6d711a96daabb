/-
  No cell of these rows narrows 'for every input' (looked for: loops, veiled, ifaces, maps, wideKeys, modest, calm, conditions, laid).
  DERIVED. THE GIVEN ROWS OF THIS SEAT. 13 by the template 'for every input the law returns true; each argument reads behind the call as it read before'; 0 by the template 'total and deterministic' (their statements: YtfbecjeogbjnpaaTotals.lean).
  GIVEN WITH THE SEED: the statements are not yours to turn. If you find one false, say at which input.
  Laid BY PROGRAM, IN A SANDBOX (cutbox-rows.mjs): the forced cells as the released guide's own fill.sh prints them over the translation 25d9cb3ffa1f3bfa… (all of the seat's roots in one cut). By AI agents, Wed Nov 11 2026. No macro, syntax, notation, axiom, sorry.
-/
import Derived.Test.YtfbecjeogbjnpaaChecked
import GoSem.Claim
import GoSem.ClaimJoined
import GoSem.ClaimMapViews
import Derived.JoinedTies
import Derived.KernelRfl
namespace Go.Proofs.Ytfbecjeogbjnpaa
/- THE CELL 'sum', in the pinned program and in every row, IS THE sha256 OF THE DUMP (.gsa) THAT YtfbecjeogbjnpaaProg.lean LOADS. Nothing in Lean hashes anything: it is a label: what it is worth is what the hold of that sum in a sandbox is worth. -/
noncomputable def Try.pinned : Pinned := { name := "ytfbecjeogbjnpaa", sum := "25d9cb3ffa1f3bfa63c5e3d11cedea1f888e808702e8be8a5cba14d552c57290", checked := Try.checked }
namespace Rows
def none {H : Type} : Left H := { results := [], args := [] }

/-- 'laws.FnExactCoinsOk': WHATEVER THE INPUT: true; the input reads as it did. -/
def fnExactCoinsOkSpec : ChangeSpec := { name := "fnExactCoinsOk", fn := fun _ => fun
  | [d] => { results := [.lit (.bool true)], args := [d] }
  | _ => none }
def fnExactCoinsOkRow : OpenClaim := { program := "ytfbecjeogbjnpaa", sum := "25d9cb3ffa1f3bfa63c5e3d11cedea1f888e808702e8be8a5cba14d552c57290", func := "loop.example/g00992/laws.FnExactCoinsOk", spec := "fnExactCoinsOk", apart := false }
def FnExactCoinsOkSaid : Prop := fnExactCoinsOkRow.holds Try.pinned (OpenSpec.ofChange fnExactCoinsOkSpec)

/-- ITS FALSE NEIGHBOUR: 'it returns false'. Refute it at one input. -/
def fnExactCoinsOkWrong : ChangeSpec := { name := "fnExactCoinsOk", fn := fun _ => fun
  | [d] => { results := [.lit (.bool false)], args := [d] }
  | _ => none }
def FnExactCoinsOkWrongFalsely : Prop := fnExactCoinsOkRow.holds Try.pinned (OpenSpec.ofChange fnExactCoinsOkWrong)

/-- 'laws.FnExactLoadOk': WHATEVER THE INPUT: true; the input reads as it did. -/
def fnExactLoadOkSpec : ChangeSpec := { name := "fnExactLoadOk", fn := fun _ => fun
  | [d1, d2] => { results := [.lit (.bool true)], args := [d1, d2] }
  | _ => none }
def fnExactLoadOkRow : OpenClaim := { program := "ytfbecjeogbjnpaa", sum := "25d9cb3ffa1f3bfa63c5e3d11cedea1f888e808702e8be8a5cba14d552c57290", func := "loop.example/g00992/laws.FnExactLoadOk", spec := "fnExactLoadOk", apart := false }
def FnExactLoadOkSaid : Prop := fnExactLoadOkRow.holds Try.pinned (OpenSpec.ofChange fnExactLoadOkSpec)

/-- ITS FALSE NEIGHBOUR: 'it returns false'. Refute it at one input. -/
def fnExactLoadOkWrong : ChangeSpec := { name := "fnExactLoadOk", fn := fun _ => fun
  | [d1, d2] => { results := [.lit (.bool false)], args := [d1, d2] }
  | _ => none }
def FnExactLoadOkWrongFalsely : Prop := fnExactLoadOkRow.holds Try.pinned (OpenSpec.ofChange fnExactLoadOkWrong)

/-- 'laws.FnExactCountLoad': WHATEVER THE INPUT: true; the input reads as it did. -/
def fnExactCountLoadSpec : ChangeSpec := { name := "fnExactCountLoad", fn := fun _ => fun
  | [d] => { results := [.lit (.bool true)], args := [d] }
  | _ => none }
def fnExactCountLoadRow : OpenClaim := { program := "ytfbecjeogbjnpaa", sum := "25d9cb3ffa1f3bfa63c5e3d11cedea1f888e808702e8be8a5cba14d552c57290", func := "loop.example/g00992/laws.FnExactCountLoad", spec := "fnExactCountLoad", apart := false }
def FnExactCountLoadSaid : Prop := fnExactCountLoadRow.holds Try.pinned (OpenSpec.ofChange fnExactCountLoadSpec)

/-- ITS FALSE NEIGHBOUR: 'it returns false'. Refute it at one input. -/
def fnExactCountLoadWrong : ChangeSpec := { name := "fnExactCountLoad", fn := fun _ => fun
  | [d] => { results := [.lit (.bool false)], args := [d] }
  | _ => none }
def FnExactCountLoadWrongFalsely : Prop := fnExactCountLoadRow.holds Try.pinned (OpenSpec.ofChange fnExactCountLoadWrong)

/-- 'laws.FnExactTurnLoad': WHATEVER THE INPUT: true; the input reads as it did. -/
def fnExactTurnLoadSpec : ChangeSpec := { name := "fnExactTurnLoad", fn := fun _ => fun
  | [d] => { results := [.lit (.bool true)], args := [d] }
  | _ => none }
def fnExactTurnLoadRow : OpenClaim := { program := "ytfbecjeogbjnpaa", sum := "25d9cb3ffa1f3bfa63c5e3d11cedea1f888e808702e8be8a5cba14d552c57290", func := "loop.example/g00992/laws.FnExactTurnLoad", spec := "fnExactTurnLoad", apart := false }
def FnExactTurnLoadSaid : Prop := fnExactTurnLoadRow.holds Try.pinned (OpenSpec.ofChange fnExactTurnLoadSpec)

/-- ITS FALSE NEIGHBOUR: 'it returns false'. Refute it at one input. -/
def fnExactTurnLoadWrong : ChangeSpec := { name := "fnExactTurnLoad", fn := fun _ => fun
  | [d] => { results := [.lit (.bool false)], args := [d] }
  | _ => none }
def FnExactTurnLoadWrongFalsely : Prop := fnExactTurnLoadRow.holds Try.pinned (OpenSpec.ofChange fnExactTurnLoadWrong)

/-- 'laws.FnExactIsFair': WHATEVER THE INPUT: true; the input reads as it did. -/
def fnExactIsFairSpec : ChangeSpec := { name := "fnExactIsFair", fn := fun _ => fun
  | [d1, d2] => { results := [.lit (.bool true)], args := [d1, d2] }
  | _ => none }
def fnExactIsFairRow : OpenClaim := { program := "ytfbecjeogbjnpaa", sum := "25d9cb3ffa1f3bfa63c5e3d11cedea1f888e808702e8be8a5cba14d552c57290", func := "loop.example/g00992/laws.FnExactIsFair", spec := "fnExactIsFair", apart := false }
def FnExactIsFairSaid : Prop := fnExactIsFairRow.holds Try.pinned (OpenSpec.ofChange fnExactIsFairSpec)

/-- ITS FALSE NEIGHBOUR: 'it returns false'. Refute it at one input. -/
def fnExactIsFairWrong : ChangeSpec := { name := "fnExactIsFair", fn := fun _ => fun
  | [d1, d2] => { results := [.lit (.bool false)], args := [d1, d2] }
  | _ => none }
def FnExactIsFairWrongFalsely : Prop := fnExactIsFairRow.holds Try.pinned (OpenSpec.ofChange fnExactIsFairWrong)

/-- 'laws.FnExactWeigh': WHATEVER THE INPUT: true; the input reads as it did. -/
def fnExactWeighSpec : ChangeSpec := { name := "fnExactWeigh", fn := fun _ => fun
  | [d1, d2] => { results := [.lit (.bool true)], args := [d1, d2] }
  | _ => none }
def fnExactWeighRow : OpenClaim := { program := "ytfbecjeogbjnpaa", sum := "25d9cb3ffa1f3bfa63c5e3d11cedea1f888e808702e8be8a5cba14d552c57290", func := "loop.example/g00992/laws.FnExactWeigh", spec := "fnExactWeigh", apart := false }
def FnExactWeighSaid : Prop := fnExactWeighRow.holds Try.pinned (OpenSpec.ofChange fnExactWeighSpec)

/-- ITS FALSE NEIGHBOUR: 'it returns false'. Refute it at one input. -/
def fnExactWeighWrong : ChangeSpec := { name := "fnExactWeigh", fn := fun _ => fun
  | [d1, d2] => { results := [.lit (.bool false)], args := [d1, d2] }
  | _ => none }
def FnExactWeighWrongFalsely : Prop := fnExactWeighRow.holds Try.pinned (OpenSpec.ofChange fnExactWeighWrong)

/-- 'laws.FnWeighings': WHATEVER THE INPUT: true; the input reads as it did. -/
def fnWeighingsSpec : ChangeSpec := { name := "fnWeighings", fn := fun _ => fun
  | [d] => { results := [.lit (.bool true)], args := [d] }
  | _ => none }
def fnWeighingsRow : OpenClaim := { program := "ytfbecjeogbjnpaa", sum := "25d9cb3ffa1f3bfa63c5e3d11cedea1f888e808702e8be8a5cba14d552c57290", func := "loop.example/g00992/laws.FnWeighings", spec := "fnWeighings", apart := false }
def FnWeighingsSaid : Prop := fnWeighingsRow.holds Try.pinned (OpenSpec.ofChange fnWeighingsSpec)

/-- ITS FALSE NEIGHBOUR: 'it returns false'. Refute it at one input. -/
def fnWeighingsWrong : ChangeSpec := { name := "fnWeighings", fn := fun _ => fun
  | [d] => { results := [.lit (.bool false)], args := [d] }
  | _ => none }
def FnWeighingsWrongFalsely : Prop := fnWeighingsRow.holds Try.pinned (OpenSpec.ofChange fnWeighingsWrong)

/-- 'laws.FnExactDigitsOf': WHATEVER THE INPUT: true; the input reads as it did. -/
def fnExactDigitsOfSpec : ChangeSpec := { name := "fnExactDigitsOf", fn := fun _ => fun
  | [d] => { results := [.lit (.bool true)], args := [d] }
  | _ => none }
def fnExactDigitsOfRow : OpenClaim := { program := "ytfbecjeogbjnpaa", sum := "25d9cb3ffa1f3bfa63c5e3d11cedea1f888e808702e8be8a5cba14d552c57290", func := "loop.example/g00992/laws.FnExactDigitsOf", spec := "fnExactDigitsOf", apart := false }
def FnExactDigitsOfSaid : Prop := fnExactDigitsOfRow.holds Try.pinned (OpenSpec.ofChange fnExactDigitsOfSpec)

/-- ITS FALSE NEIGHBOUR: 'it returns false'. Refute it at one input. -/
def fnExactDigitsOfWrong : ChangeSpec := { name := "fnExactDigitsOf", fn := fun _ => fun
  | [d] => { results := [.lit (.bool false)], args := [d] }
  | _ => none }
def FnExactDigitsOfWrongFalsely : Prop := fnExactDigitsOfRow.holds Try.pinned (OpenSpec.ofChange fnExactDigitsOfWrong)

/-- 'laws.FnExactValueOf': WHATEVER THE INPUT: true; the input reads as it did. -/
def fnExactValueOfSpec : ChangeSpec := { name := "fnExactValueOf", fn := fun _ => fun
  | [d] => { results := [.lit (.bool true)], args := [d] }
  | _ => none }
def fnExactValueOfRow : OpenClaim := { program := "ytfbecjeogbjnpaa", sum := "25d9cb3ffa1f3bfa63c5e3d11cedea1f888e808702e8be8a5cba14d552c57290", func := "loop.example/g00992/laws.FnExactValueOf", spec := "fnExactValueOf", apart := false }
def FnExactValueOfSaid : Prop := fnExactValueOfRow.holds Try.pinned (OpenSpec.ofChange fnExactValueOfSpec)

/-- ITS FALSE NEIGHBOUR: 'it returns false'. Refute it at one input. -/
def fnExactValueOfWrong : ChangeSpec := { name := "fnExactValueOf", fn := fun _ => fun
  | [d] => { results := [.lit (.bool false)], args := [d] }
  | _ => none }
def FnExactValueOfWrongFalsely : Prop := fnExactValueOfRow.holds Try.pinned (OpenSpec.ofChange fnExactValueOfWrong)

/-- 'laws.FnExactCountWeights': WHATEVER THE INPUT: true; the input reads as it did. -/
def fnExactCountWeightsSpec : ChangeSpec := { name := "fnExactCountWeights", fn := fun _ => fun
  | [d] => { results := [.lit (.bool true)], args := [d] }
  | _ => none }
def fnExactCountWeightsRow : OpenClaim := { program := "ytfbecjeogbjnpaa", sum := "25d9cb3ffa1f3bfa63c5e3d11cedea1f888e808702e8be8a5cba14d552c57290", func := "loop.example/g00992/laws.FnExactCountWeights", spec := "fnExactCountWeights", apart := false }
def FnExactCountWeightsSaid : Prop := fnExactCountWeightsRow.holds Try.pinned (OpenSpec.ofChange fnExactCountWeightsSpec)

/-- ITS FALSE NEIGHBOUR: 'it returns false'. Refute it at one input. -/
def fnExactCountWeightsWrong : ChangeSpec := { name := "fnExactCountWeights", fn := fun _ => fun
  | [d] => { results := [.lit (.bool false)], args := [d] }
  | _ => none }
def FnExactCountWeightsWrongFalsely : Prop := fnExactCountWeightsRow.holds Try.pinned (OpenSpec.ofChange fnExactCountWeightsWrong)

/-- 'laws.FnExactNegateDigits': WHATEVER THE INPUT: true; the input reads as it did. -/
def fnExactNegateDigitsSpec : ChangeSpec := { name := "fnExactNegateDigits", fn := fun _ => fun
  | [d] => { results := [.lit (.bool true)], args := [d] }
  | _ => none }
def fnExactNegateDigitsRow : OpenClaim := { program := "ytfbecjeogbjnpaa", sum := "25d9cb3ffa1f3bfa63c5e3d11cedea1f888e808702e8be8a5cba14d552c57290", func := "loop.example/g00992/laws.FnExactNegateDigits", spec := "fnExactNegateDigits", apart := false }
def FnExactNegateDigitsSaid : Prop := fnExactNegateDigitsRow.holds Try.pinned (OpenSpec.ofChange fnExactNegateDigitsSpec)

/-- ITS FALSE NEIGHBOUR: 'it returns false'. Refute it at one input. -/
def fnExactNegateDigitsWrong : ChangeSpec := { name := "fnExactNegateDigits", fn := fun _ => fun
  | [d] => { results := [.lit (.bool false)], args := [d] }
  | _ => none }
def FnExactNegateDigitsWrongFalsely : Prop := fnExactNegateDigitsRow.holds Try.pinned (OpenSpec.ofChange fnExactNegateDigitsWrong)

/-- 'laws.FnExactPansFor': WHATEVER THE INPUT: true; the input reads as it did. -/
def fnExactPansForSpec : ChangeSpec := { name := "fnExactPansFor", fn := fun _ => fun
  | [d] => { results := [.lit (.bool true)], args := [d] }
  | _ => none }
def fnExactPansForRow : OpenClaim := { program := "ytfbecjeogbjnpaa", sum := "25d9cb3ffa1f3bfa63c5e3d11cedea1f888e808702e8be8a5cba14d552c57290", func := "loop.example/g00992/laws.FnExactPansFor", spec := "fnExactPansFor", apart := false }
def FnExactPansForSaid : Prop := fnExactPansForRow.holds Try.pinned (OpenSpec.ofChange fnExactPansForSpec)

/-- ITS FALSE NEIGHBOUR: 'it returns false'. Refute it at one input. -/
def fnExactPansForWrong : ChangeSpec := { name := "fnExactPansFor", fn := fun _ => fun
  | [d] => { results := [.lit (.bool false)], args := [d] }
  | _ => none }
def FnExactPansForWrongFalsely : Prop := fnExactPansForRow.holds Try.pinned (OpenSpec.ofChange fnExactPansForWrong)

/-- 'laws.FnTernary': WHATEVER THE INPUT: true; the input reads as it did. -/
def fnTernarySpec : ChangeSpec := { name := "fnTernary", fn := fun _ => fun
  | [d] => { results := [.lit (.bool true)], args := [d] }
  | _ => none }
def fnTernaryRow : OpenClaim := { program := "ytfbecjeogbjnpaa", sum := "25d9cb3ffa1f3bfa63c5e3d11cedea1f888e808702e8be8a5cba14d552c57290", func := "loop.example/g00992/laws.FnTernary", spec := "fnTernary", apart := false }
def FnTernarySaid : Prop := fnTernaryRow.holds Try.pinned (OpenSpec.ofChange fnTernarySpec)

/-- ITS FALSE NEIGHBOUR: 'it returns false'. Refute it at one input. -/
def fnTernaryWrong : ChangeSpec := { name := "fnTernary", fn := fun _ => fun
  | [d] => { results := [.lit (.bool false)], args := [d] }
  | _ => none }
def FnTernaryWrongFalsely : Prop := fnTernaryRow.holds Try.pinned (OpenSpec.ofChange fnTernaryWrong)

/- THE SECOND FORM. 'bulk': how many values and letters a reading holds, each counted each time it is reached (what is shared counts as often as it is met; a slice's spare places count too). A statement '..UptoSaid' is the law's where the arguments, and the package variables that the reading takes, are together of bulk at most 1048576: NARROWER than '..Said'. Prove '..Said' where nothing that the law and all that it calls make is longer than what came in: it says more and counts as full. Else prove '..UptoSaid'. A law counts once. -/
mutual
def uptoBulk {H : Type} : DataW H → Nat
  | .lit (.string bytes) => bytes.length + 1
  | .lit _ => 1
  | .nil => 1
  | .ptr d => uptoBulk d + 1
  | .slice elems spare => uptoBulkAll elems + uptoBulkAll spare + 1
  | .agg parts => uptoBulkAll parts + 1
  | .iface _ d => uptoBulk d + 1
  | .map entries => uptoBulkEntries entries + 1
  | .held _ => 1
def uptoBulkAll {H : Type} : List (DataW H) → Nat
  | [] => 0
  | d :: r => uptoBulk d + uptoBulkAll r
def uptoBulkEntries {H : Type} : List (Lit × DataW H) → Nat
  | [] => 0
  | x :: r => uptoBulkEntry x + uptoBulkEntries r
def uptoBulkEntry {H : Type} : Lit × DataW H → Nat
  | (.string bytes, d) => bytes.length + uptoBulk d + 1
  | (_, d) => uptoBulk d + 1
 end
def uptoSmall : (H : Type) → List (DataW H) → Bool := fun _ ds => decide (uptoBulkAll ds ≤ 1048576)
def OpenSpec.upto (s : _root_.Go.ChangeSpec) : _root_.Go.OpenSpec := { _root_.Go.OpenSpec.ofChange s with cond := some uptoSmall }

/-- 'laws.FnExactCoinsOk', WHERE WHAT IT READS IS OF BULK AT MOST 1048576: true; the input reads as it did. -/
def fnExactCoinsOkUptoRow : OpenClaim := { program := "ytfbecjeogbjnpaa", sum := "25d9cb3ffa1f3bfa63c5e3d11cedea1f888e808702e8be8a5cba14d552c57290", func := "loop.example/g00992/laws.FnExactCoinsOk", spec := "fnExactCoinsOk", apart := false, narrowed := true }
def FnExactCoinsOkUptoSaid : Prop := fnExactCoinsOkUptoRow.holds Try.pinned (OpenSpec.upto fnExactCoinsOkSpec)

/-- 'laws.FnExactLoadOk', WHERE WHAT IT READS IS OF BULK AT MOST 1048576: true; the input reads as it did. -/
def fnExactLoadOkUptoRow : OpenClaim := { program := "ytfbecjeogbjnpaa", sum := "25d9cb3ffa1f3bfa63c5e3d11cedea1f888e808702e8be8a5cba14d552c57290", func := "loop.example/g00992/laws.FnExactLoadOk", spec := "fnExactLoadOk", apart := false, narrowed := true }
def FnExactLoadOkUptoSaid : Prop := fnExactLoadOkUptoRow.holds Try.pinned (OpenSpec.upto fnExactLoadOkSpec)

/-- 'laws.FnExactCountLoad', WHERE WHAT IT READS IS OF BULK AT MOST 1048576: true; the input reads as it did. -/
def fnExactCountLoadUptoRow : OpenClaim := { program := "ytfbecjeogbjnpaa", sum := "25d9cb3ffa1f3bfa63c5e3d11cedea1f888e808702e8be8a5cba14d552c57290", func := "loop.example/g00992/laws.FnExactCountLoad", spec := "fnExactCountLoad", apart := false, narrowed := true }
def FnExactCountLoadUptoSaid : Prop := fnExactCountLoadUptoRow.holds Try.pinned (OpenSpec.upto fnExactCountLoadSpec)

/-- 'laws.FnExactTurnLoad', WHERE WHAT IT READS IS OF BULK AT MOST 1048576: true; the input reads as it did. -/
def fnExactTurnLoadUptoRow : OpenClaim := { program := "ytfbecjeogbjnpaa", sum := "25d9cb3ffa1f3bfa63c5e3d11cedea1f888e808702e8be8a5cba14d552c57290", func := "loop.example/g00992/laws.FnExactTurnLoad", spec := "fnExactTurnLoad", apart := false, narrowed := true }
def FnExactTurnLoadUptoSaid : Prop := fnExactTurnLoadUptoRow.holds Try.pinned (OpenSpec.upto fnExactTurnLoadSpec)

/-- 'laws.FnExactIsFair', WHERE WHAT IT READS IS OF BULK AT MOST 1048576: true; the input reads as it did. -/
def fnExactIsFairUptoRow : OpenClaim := { program := "ytfbecjeogbjnpaa", sum := "25d9cb3ffa1f3bfa63c5e3d11cedea1f888e808702e8be8a5cba14d552c57290", func := "loop.example/g00992/laws.FnExactIsFair", spec := "fnExactIsFair", apart := false, narrowed := true }
def FnExactIsFairUptoSaid : Prop := fnExactIsFairUptoRow.holds Try.pinned (OpenSpec.upto fnExactIsFairSpec)

/-- 'laws.FnExactWeigh', WHERE WHAT IT READS IS OF BULK AT MOST 1048576: true; the input reads as it did. -/
def fnExactWeighUptoRow : OpenClaim := { program := "ytfbecjeogbjnpaa", sum := "25d9cb3ffa1f3bfa63c5e3d11cedea1f888e808702e8be8a5cba14d552c57290", func := "loop.example/g00992/laws.FnExactWeigh", spec := "fnExactWeigh", apart := false, narrowed := true }
def FnExactWeighUptoSaid : Prop := fnExactWeighUptoRow.holds Try.pinned (OpenSpec.upto fnExactWeighSpec)

/-- 'laws.FnWeighings', WHERE WHAT IT READS IS OF BULK AT MOST 1048576: true; the input reads as it did. -/
def fnWeighingsUptoRow : OpenClaim := { program := "ytfbecjeogbjnpaa", sum := "25d9cb3ffa1f3bfa63c5e3d11cedea1f888e808702e8be8a5cba14d552c57290", func := "loop.example/g00992/laws.FnWeighings", spec := "fnWeighings", apart := false, narrowed := true }
def FnWeighingsUptoSaid : Prop := fnWeighingsUptoRow.holds Try.pinned (OpenSpec.upto fnWeighingsSpec)

/-- 'laws.FnExactDigitsOf', WHERE WHAT IT READS IS OF BULK AT MOST 1048576: true; the input reads as it did. -/
def fnExactDigitsOfUptoRow : OpenClaim := { program := "ytfbecjeogbjnpaa", sum := "25d9cb3ffa1f3bfa63c5e3d11cedea1f888e808702e8be8a5cba14d552c57290", func := "loop.example/g00992/laws.FnExactDigitsOf", spec := "fnExactDigitsOf", apart := false, narrowed := true }
def FnExactDigitsOfUptoSaid : Prop := fnExactDigitsOfUptoRow.holds Try.pinned (OpenSpec.upto fnExactDigitsOfSpec)

/-- 'laws.FnExactValueOf', WHERE WHAT IT READS IS OF BULK AT MOST 1048576: true; the input reads as it did. -/
def fnExactValueOfUptoRow : OpenClaim := { program := "ytfbecjeogbjnpaa", sum := "25d9cb3ffa1f3bfa63c5e3d11cedea1f888e808702e8be8a5cba14d552c57290", func := "loop.example/g00992/laws.FnExactValueOf", spec := "fnExactValueOf", apart := false, narrowed := true }
def FnExactValueOfUptoSaid : Prop := fnExactValueOfUptoRow.holds Try.pinned (OpenSpec.upto fnExactValueOfSpec)

/-- 'laws.FnExactCountWeights', WHERE WHAT IT READS IS OF BULK AT MOST 1048576: true; the input reads as it did. -/
def fnExactCountWeightsUptoRow : OpenClaim := { program := "ytfbecjeogbjnpaa", sum := "25d9cb3ffa1f3bfa63c5e3d11cedea1f888e808702e8be8a5cba14d552c57290", func := "loop.example/g00992/laws.FnExactCountWeights", spec := "fnExactCountWeights", apart := false, narrowed := true }
def FnExactCountWeightsUptoSaid : Prop := fnExactCountWeightsUptoRow.holds Try.pinned (OpenSpec.upto fnExactCountWeightsSpec)

/-- 'laws.FnExactNegateDigits', WHERE WHAT IT READS IS OF BULK AT MOST 1048576: true; the input reads as it did. -/
def fnExactNegateDigitsUptoRow : OpenClaim := { program := "ytfbecjeogbjnpaa", sum := "25d9cb3ffa1f3bfa63c5e3d11cedea1f888e808702e8be8a5cba14d552c57290", func := "loop.example/g00992/laws.FnExactNegateDigits", spec := "fnExactNegateDigits", apart := false, narrowed := true }
def FnExactNegateDigitsUptoSaid : Prop := fnExactNegateDigitsUptoRow.holds Try.pinned (OpenSpec.upto fnExactNegateDigitsSpec)

/-- 'laws.FnExactPansFor', WHERE WHAT IT READS IS OF BULK AT MOST 1048576: true; the input reads as it did. -/
def fnExactPansForUptoRow : OpenClaim := { program := "ytfbecjeogbjnpaa", sum := "25d9cb3ffa1f3bfa63c5e3d11cedea1f888e808702e8be8a5cba14d552c57290", func := "loop.example/g00992/laws.FnExactPansFor", spec := "fnExactPansFor", apart := false, narrowed := true }
def FnExactPansForUptoSaid : Prop := fnExactPansForUptoRow.holds Try.pinned (OpenSpec.upto fnExactPansForSpec)

/-- 'laws.FnTernary', WHERE WHAT IT READS IS OF BULK AT MOST 1048576: true; the input reads as it did. -/
def fnTernaryUptoRow : OpenClaim := { program := "ytfbecjeogbjnpaa", sum := "25d9cb3ffa1f3bfa63c5e3d11cedea1f888e808702e8be8a5cba14d552c57290", func := "loop.example/g00992/laws.FnTernary", spec := "fnTernary", apart := false, narrowed := true }
def FnTernaryUptoSaid : Prop := fnTernaryUptoRow.holds Try.pinned (OpenSpec.upto fnTernarySpec)

end Rows
end Go.Proofs.Ytfbecjeogbjnpaa
