/-
  No cell of these rows narrows 'for every input' (looked for: loops, veiled, ifaces, maps, wideKeys, modest, calm, conditions, laid).
  DERIVED. THE GIVEN ROWS OF THIS SEAT. 6 by the template 'for every input the law returns true; each argument reads behind the call as it read before'; 0 by the template 'total and deterministic' (their statements: YtbppdjglmgnggaaTotals.lean).
  GIVEN WITH THE SEED: the statements are not yours to turn. If you find one false, say at which input.
  Laid BY PROGRAM, IN A SANDBOX (cutbox-rows.mjs): the forced cells as the released guide's own fill.sh prints them over the translation 25d13b2820b635e9… (all of the seat's roots in one cut). By AI agents, Wed Nov 11 2026. No macro, syntax, notation, axiom, sorry.
-/
import Derived.Test.YtbppdjglmgnggaaChecked
import GoSem.Claim
import GoSem.ClaimJoined
import GoSem.ClaimMapViews
import Derived.JoinedTies
import Derived.KernelRfl
namespace Go.Proofs.Ytbppdjglmgnggaa
/- THE CELL 'sum', in the pinned program and in every row, IS THE sha256 OF THE DUMP (.gsa) THAT YtbppdjglmgnggaaProg.lean LOADS. Nothing in Lean hashes anything: it is a label: what it is worth is what the hold of that sum in a sandbox is worth. -/
noncomputable def Try.pinned : Pinned := { name := "ytbppdjglmgnggaa", sum := "25d13b2820b635e91694994505f52f9b867f77de62653ca29de29f120852e099", checked := Try.checked }
namespace Rows
def none {H : Type} : Left H := { results := [], args := [] }

/-- 'laws.FnExactFractionOk': WHATEVER THE INPUT: true; the input reads as it did. -/
def fnExactFractionOkSpec : ChangeSpec := { name := "fnExactFractionOk", fn := fun _ => fun
  | [d] => { results := [.lit (.bool true)], args := [d] }
  | _ => none }
def fnExactFractionOkRow : OpenClaim := { program := "ytbppdjglmgnggaa", sum := "25d13b2820b635e91694994505f52f9b867f77de62653ca29de29f120852e099", func := "loop.example/g00992/laws.FnExactFractionOk", spec := "fnExactFractionOk", apart := false }
def FnExactFractionOkSaid : Prop := fnExactFractionOkRow.holds Try.pinned (OpenSpec.ofChange fnExactFractionOkSpec)

/-- ITS FALSE NEIGHBOUR: 'it returns false'. Refute it at one input. -/
def fnExactFractionOkWrong : ChangeSpec := { name := "fnExactFractionOk", fn := fun _ => fun
  | [d] => { results := [.lit (.bool false)], args := [d] }
  | _ => none }
def FnExactFractionOkWrongFalsely : Prop := fnExactFractionOkRow.holds Try.pinned (OpenSpec.ofChange fnExactFractionOkWrong)

/-- 'laws.FnExactCompareFractions': WHATEVER THE INPUT: true; the input reads as it did. -/
def fnExactCompareFractionsSpec : ChangeSpec := { name := "fnExactCompareFractions", fn := fun _ => fun
  | [d1, d2] => { results := [.lit (.bool true)], args := [d1, d2] }
  | _ => none }
def fnExactCompareFractionsRow : OpenClaim := { program := "ytbppdjglmgnggaa", sum := "25d13b2820b635e91694994505f52f9b867f77de62653ca29de29f120852e099", func := "loop.example/g00992/laws.FnExactCompareFractions", spec := "fnExactCompareFractions", apart := false }
def FnExactCompareFractionsSaid : Prop := fnExactCompareFractionsRow.holds Try.pinned (OpenSpec.ofChange fnExactCompareFractionsSpec)

/-- ITS FALSE NEIGHBOUR: 'it returns false'. Refute it at one input. -/
def fnExactCompareFractionsWrong : ChangeSpec := { name := "fnExactCompareFractions", fn := fun _ => fun
  | [d1, d2] => { results := [.lit (.bool false)], args := [d1, d2] }
  | _ => none }
def FnExactCompareFractionsWrongFalsely : Prop := fnExactCompareFractionsRow.holds Try.pinned (OpenSpec.ofChange fnExactCompareFractionsWrong)

/-- 'laws.FnExactMakeFraction': WHATEVER THE INPUT: true; the input reads as it did. -/
def fnExactMakeFractionSpec : ChangeSpec := { name := "fnExactMakeFraction", fn := fun _ => fun
  | [d1, d2] => { results := [.lit (.bool true)], args := [d1, d2] }
  | _ => none }
def fnExactMakeFractionRow : OpenClaim := { program := "ytbppdjglmgnggaa", sum := "25d13b2820b635e91694994505f52f9b867f77de62653ca29de29f120852e099", func := "loop.example/g00992/laws.FnExactMakeFraction", spec := "fnExactMakeFraction", apart := false }
def FnExactMakeFractionSaid : Prop := fnExactMakeFractionRow.holds Try.pinned (OpenSpec.ofChange fnExactMakeFractionSpec)

/-- ITS FALSE NEIGHBOUR: 'it returns false'. Refute it at one input. -/
def fnExactMakeFractionWrong : ChangeSpec := { name := "fnExactMakeFraction", fn := fun _ => fun
  | [d1, d2] => { results := [.lit (.bool false)], args := [d1, d2] }
  | _ => none }
def FnExactMakeFractionWrongFalsely : Prop := fnExactMakeFractionRow.holds Try.pinned (OpenSpec.ofChange fnExactMakeFractionWrong)

/-- 'laws.FnExactAddFractions': WHATEVER THE INPUT: true; the input reads as it did. -/
def fnExactAddFractionsSpec : ChangeSpec := { name := "fnExactAddFractions", fn := fun _ => fun
  | [d1, d2] => { results := [.lit (.bool true)], args := [d1, d2] }
  | _ => none }
def fnExactAddFractionsRow : OpenClaim := { program := "ytbppdjglmgnggaa", sum := "25d13b2820b635e91694994505f52f9b867f77de62653ca29de29f120852e099", func := "loop.example/g00992/laws.FnExactAddFractions", spec := "fnExactAddFractions", apart := false }
def FnExactAddFractionsSaid : Prop := fnExactAddFractionsRow.holds Try.pinned (OpenSpec.ofChange fnExactAddFractionsSpec)

/-- ITS FALSE NEIGHBOUR: 'it returns false'. Refute it at one input. -/
def fnExactAddFractionsWrong : ChangeSpec := { name := "fnExactAddFractions", fn := fun _ => fun
  | [d1, d2] => { results := [.lit (.bool false)], args := [d1, d2] }
  | _ => none }
def FnExactAddFractionsWrongFalsely : Prop := fnExactAddFractionsRow.holds Try.pinned (OpenSpec.ofChange fnExactAddFractionsWrong)

/-- 'laws.FnExactTimesFractions': WHATEVER THE INPUT: true; the input reads as it did. -/
def fnExactTimesFractionsSpec : ChangeSpec := { name := "fnExactTimesFractions", fn := fun _ => fun
  | [d1, d2] => { results := [.lit (.bool true)], args := [d1, d2] }
  | _ => none }
def fnExactTimesFractionsRow : OpenClaim := { program := "ytbppdjglmgnggaa", sum := "25d13b2820b635e91694994505f52f9b867f77de62653ca29de29f120852e099", func := "loop.example/g00992/laws.FnExactTimesFractions", spec := "fnExactTimesFractions", apart := false }
def FnExactTimesFractionsSaid : Prop := fnExactTimesFractionsRow.holds Try.pinned (OpenSpec.ofChange fnExactTimesFractionsSpec)

/-- ITS FALSE NEIGHBOUR: 'it returns false'. Refute it at one input. -/
def fnExactTimesFractionsWrong : ChangeSpec := { name := "fnExactTimesFractions", fn := fun _ => fun
  | [d1, d2] => { results := [.lit (.bool false)], args := [d1, d2] }
  | _ => none }
def FnExactTimesFractionsWrongFalsely : Prop := fnExactTimesFractionsRow.holds Try.pinned (OpenSpec.ofChange fnExactTimesFractionsWrong)

/-- 'laws.FnFractions': WHATEVER THE INPUT: true; the input reads as it did. -/
def fnFractionsSpec : ChangeSpec := { name := "fnFractions", fn := fun _ => fun
  | [d] => { results := [.lit (.bool true)], args := [d] }
  | _ => none }
def fnFractionsRow : OpenClaim := { program := "ytbppdjglmgnggaa", sum := "25d13b2820b635e91694994505f52f9b867f77de62653ca29de29f120852e099", func := "loop.example/g00992/laws.FnFractions", spec := "fnFractions", apart := false }
def FnFractionsSaid : Prop := fnFractionsRow.holds Try.pinned (OpenSpec.ofChange fnFractionsSpec)

/-- ITS FALSE NEIGHBOUR: 'it returns false'. Refute it at one input. -/
def fnFractionsWrong : ChangeSpec := { name := "fnFractions", fn := fun _ => fun
  | [d] => { results := [.lit (.bool false)], args := [d] }
  | _ => none }
def FnFractionsWrongFalsely : Prop := fnFractionsRow.holds Try.pinned (OpenSpec.ofChange fnFractionsWrong)

/- THE SECOND FORM. 'bulk': how many values and letters a reading holds, each counted each time it is reached (what is shared counts as often as it is met; a slice's spare places count too). A statement '..UptoSaid' is the law's where the arguments, and the package variables that the reading takes, are together of bulk at most 1048576: NARROWER than '..Said'. Prove '..Said' where nothing that the law and all that it calls make is longer than what came in: it says more and counts as full. Else prove '..UptoSaid'. A law counts once. -/
mutual
def uptoBulk {H : Type} : DataW H → Nat
  | .lit (.string bytes) => bytes.length + 1
  | .lit _ => 1
  | .nil => 1
  | .ptr d => uptoBulk d + 1
  | .slice elems spare => uptoBulkAll elems + uptoBulkAll spare + 1
  | .agg parts => uptoBulkAll parts + 1
  | .iface _ d => uptoBulk d + 1
  | .map entries => uptoBulkEntries entries + 1
  | .held _ => 1
def uptoBulkAll {H : Type} : List (DataW H) → Nat
  | [] => 0
  | d :: r => uptoBulk d + uptoBulkAll r
def uptoBulkEntries {H : Type} : List (Lit × DataW H) → Nat
  | [] => 0
  | x :: r => uptoBulkEntry x + uptoBulkEntries r
def uptoBulkEntry {H : Type} : Lit × DataW H → Nat
  | (.string bytes, d) => bytes.length + uptoBulk d + 1
  | (_, d) => uptoBulk d + 1
 end
def uptoSmall : (H : Type) → List (DataW H) → Bool := fun _ ds => decide (uptoBulkAll ds ≤ 1048576)
def OpenSpec.upto (s : _root_.Go.ChangeSpec) : _root_.Go.OpenSpec := { _root_.Go.OpenSpec.ofChange s with cond := some uptoSmall }

/-- 'laws.FnExactFractionOk', WHERE WHAT IT READS IS OF BULK AT MOST 1048576: true; the input reads as it did. -/
def fnExactFractionOkUptoRow : OpenClaim := { program := "ytbppdjglmgnggaa", sum := "25d13b2820b635e91694994505f52f9b867f77de62653ca29de29f120852e099", func := "loop.example/g00992/laws.FnExactFractionOk", spec := "fnExactFractionOk", apart := false, narrowed := true }
def FnExactFractionOkUptoSaid : Prop := fnExactFractionOkUptoRow.holds Try.pinned (OpenSpec.upto fnExactFractionOkSpec)

/-- 'laws.FnExactCompareFractions', WHERE WHAT IT READS IS OF BULK AT MOST 1048576: true; the input reads as it did. -/
def fnExactCompareFractionsUptoRow : OpenClaim := { program := "ytbppdjglmgnggaa", sum := "25d13b2820b635e91694994505f52f9b867f77de62653ca29de29f120852e099", func := "loop.example/g00992/laws.FnExactCompareFractions", spec := "fnExactCompareFractions", apart := false, narrowed := true }
def FnExactCompareFractionsUptoSaid : Prop := fnExactCompareFractionsUptoRow.holds Try.pinned (OpenSpec.upto fnExactCompareFractionsSpec)

/-- 'laws.FnExactMakeFraction', WHERE WHAT IT READS IS OF BULK AT MOST 1048576: true; the input reads as it did. -/
def fnExactMakeFractionUptoRow : OpenClaim := { program := "ytbppdjglmgnggaa", sum := "25d13b2820b635e91694994505f52f9b867f77de62653ca29de29f120852e099", func := "loop.example/g00992/laws.FnExactMakeFraction", spec := "fnExactMakeFraction", apart := false, narrowed := true }
def FnExactMakeFractionUptoSaid : Prop := fnExactMakeFractionUptoRow.holds Try.pinned (OpenSpec.upto fnExactMakeFractionSpec)

/-- 'laws.FnExactAddFractions', WHERE WHAT IT READS IS OF BULK AT MOST 1048576: true; the input reads as it did. -/
def fnExactAddFractionsUptoRow : OpenClaim := { program := "ytbppdjglmgnggaa", sum := "25d13b2820b635e91694994505f52f9b867f77de62653ca29de29f120852e099", func := "loop.example/g00992/laws.FnExactAddFractions", spec := "fnExactAddFractions", apart := false, narrowed := true }
def FnExactAddFractionsUptoSaid : Prop := fnExactAddFractionsUptoRow.holds Try.pinned (OpenSpec.upto fnExactAddFractionsSpec)

/-- 'laws.FnExactTimesFractions', WHERE WHAT IT READS IS OF BULK AT MOST 1048576: true; the input reads as it did. -/
def fnExactTimesFractionsUptoRow : OpenClaim := { program := "ytbppdjglmgnggaa", sum := "25d13b2820b635e91694994505f52f9b867f77de62653ca29de29f120852e099", func := "loop.example/g00992/laws.FnExactTimesFractions", spec := "fnExactTimesFractions", apart := false, narrowed := true }
def FnExactTimesFractionsUptoSaid : Prop := fnExactTimesFractionsUptoRow.holds Try.pinned (OpenSpec.upto fnExactTimesFractionsSpec)

/-- 'laws.FnFractions', WHERE WHAT IT READS IS OF BULK AT MOST 1048576: true; the input reads as it did. -/
def fnFractionsUptoRow : OpenClaim := { program := "ytbppdjglmgnggaa", sum := "25d13b2820b635e91694994505f52f9b867f77de62653ca29de29f120852e099", func := "loop.example/g00992/laws.FnFractions", spec := "fnFractions", apart := false, narrowed := true }
def FnFractionsUptoSaid : Prop := fnFractionsUptoRow.holds Try.pinned (OpenSpec.upto fnFractionsSpec)

end Rows
end Go.Proofs.Ytbppdjglmgnggaa
