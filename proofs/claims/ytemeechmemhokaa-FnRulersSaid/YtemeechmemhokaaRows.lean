/-
  No cell of these rows narrows 'for every input' (looked for: loops, veiled, ifaces, maps, wideKeys, modest, calm, conditions, laid).
  DERIVED. THE GIVEN ROWS OF THIS SEAT. 6 by the template 'for every input the law returns true; each argument reads behind the call as it read before'; 0 by the template 'total and deterministic' (their statements: YtemeechmemhokaaTotals.lean).
  GIVEN WITH THE SEED: the statements are not yours to turn. If you find one false, say at which input.
  Laid BY PROGRAM, IN A SANDBOX (cutbox-rows.mjs): the forced cells as the released guide's own fill.sh prints them over the translation f5c9c068b87bd949… (all of the seat's roots in one cut). By AI agents, Wed Nov 11 2026. No macro, syntax, notation, axiom, sorry.
-/
import Derived.Test.YtemeechmemhokaaChecked
import GoSem.Claim
import GoSem.ClaimJoined
import GoSem.ClaimMapViews
import Derived.JoinedTies
import Derived.KernelRfl
namespace Go.Proofs.Ytemeechmemhokaa
/- THE CELL 'sum', in the pinned program and in every row, IS THE sha256 OF THE DUMP (.gsa) THAT YtemeechmemhokaaProg.lean LOADS. Nothing in Lean hashes anything: it is a label: what it is worth is what the hold of that sum in a sandbox is worth. -/
noncomputable def Try.pinned : Pinned := { name := "ytemeechmemhokaa", sum := "f5c9c068b87bd949537a46ae9f61093da38116aa580c9d8617f9d15ef2308570", checked := Try.checked }
namespace Rows
def none {H : Type} : Left H := { results := [], args := [] }

/-- 'laws.FnExactLengthsOf': WHATEVER THE INPUT: true; the input reads as it did. -/
def fnExactLengthsOfSpec : ChangeSpec := { name := "fnExactLengthsOf", fn := fun _ => fun
  | [d] => { results := [.lit (.bool true)], args := [d] }
  | _ => none }
def fnExactLengthsOfRow : OpenClaim := { program := "ytemeechmemhokaa", sum := "f5c9c068b87bd949537a46ae9f61093da38116aa580c9d8617f9d15ef2308570", func := "loop.example/g00992/laws.FnExactLengthsOf", spec := "fnExactLengthsOf", recurses := true, apart := false }
def FnExactLengthsOfSaid : Prop := fnExactLengthsOfRow.holds Try.pinned (OpenSpec.ofChange fnExactLengthsOfSpec)

/-- ITS FALSE NEIGHBOUR: 'it returns false'. Refute it at one input. -/
def fnExactLengthsOfWrong : ChangeSpec := { name := "fnExactLengthsOf", fn := fun _ => fun
  | [d] => { results := [.lit (.bool false)], args := [d] }
  | _ => none }
def FnExactLengthsOfWrongFalsely : Prop := fnExactLengthsOfRow.holds Try.pinned (OpenSpec.ofChange fnExactLengthsOfWrong)

/-- 'laws.FnExactIsGolomb': WHATEVER THE INPUT: true; the input reads as it did. -/
def fnExactIsGolombSpec : ChangeSpec := { name := "fnExactIsGolomb", fn := fun _ => fun
  | [d] => { results := [.lit (.bool true)], args := [d] }
  | _ => none }
def fnExactIsGolombRow : OpenClaim := { program := "ytemeechmemhokaa", sum := "f5c9c068b87bd949537a46ae9f61093da38116aa580c9d8617f9d15ef2308570", func := "loop.example/g00992/laws.FnExactIsGolomb", spec := "fnExactIsGolomb", recurses := true, apart := false }
def FnExactIsGolombSaid : Prop := fnExactIsGolombRow.holds Try.pinned (OpenSpec.ofChange fnExactIsGolombSpec)

/-- ITS FALSE NEIGHBOUR: 'it returns false'. Refute it at one input. -/
def fnExactIsGolombWrong : ChangeSpec := { name := "fnExactIsGolomb", fn := fun _ => fun
  | [d] => { results := [.lit (.bool false)], args := [d] }
  | _ => none }
def FnExactIsGolombWrongFalsely : Prop := fnExactIsGolombRow.holds Try.pinned (OpenSpec.ofChange fnExactIsGolombWrong)

/-- 'laws.FnExactMeasuresAll': WHATEVER THE INPUT: true; the input reads as it did. -/
def fnExactMeasuresAllSpec : ChangeSpec := { name := "fnExactMeasuresAll", fn := fun _ => fun
  | [d] => { results := [.lit (.bool true)], args := [d] }
  | _ => none }
def fnExactMeasuresAllRow : OpenClaim := { program := "ytemeechmemhokaa", sum := "f5c9c068b87bd949537a46ae9f61093da38116aa580c9d8617f9d15ef2308570", func := "loop.example/g00992/laws.FnExactMeasuresAll", spec := "fnExactMeasuresAll", recurses := true, apart := false }
def FnExactMeasuresAllSaid : Prop := fnExactMeasuresAllRow.holds Try.pinned (OpenSpec.ofChange fnExactMeasuresAllSpec)

/-- ITS FALSE NEIGHBOUR: 'it returns false'. Refute it at one input. -/
def fnExactMeasuresAllWrong : ChangeSpec := { name := "fnExactMeasuresAll", fn := fun _ => fun
  | [d] => { results := [.lit (.bool false)], args := [d] }
  | _ => none }
def FnExactMeasuresAllWrongFalsely : Prop := fnExactMeasuresAllRow.holds Try.pinned (OpenSpec.ofChange fnExactMeasuresAllWrong)

/-- 'laws.FnExactFewestMarks': WHATEVER THE INPUT: true; the input reads as it did. -/
def fnExactFewestMarksSpec : ChangeSpec := { name := "fnExactFewestMarks", fn := fun _ => fun
  | [d] => { results := [.lit (.bool true)], args := [d] }
  | _ => none }
def fnExactFewestMarksRow : OpenClaim := { program := "ytemeechmemhokaa", sum := "f5c9c068b87bd949537a46ae9f61093da38116aa580c9d8617f9d15ef2308570", func := "loop.example/g00992/laws.FnExactFewestMarks", spec := "fnExactFewestMarks", unfollowed := true, recurses := true, apart := false }
def FnExactFewestMarksSaid : Prop := fnExactFewestMarksRow.holds Try.pinned (OpenSpec.ofChange fnExactFewestMarksSpec)

/-- ITS FALSE NEIGHBOUR: 'it returns false'. Refute it at one input. -/
def fnExactFewestMarksWrong : ChangeSpec := { name := "fnExactFewestMarks", fn := fun _ => fun
  | [d] => { results := [.lit (.bool false)], args := [d] }
  | _ => none }
def FnExactFewestMarksWrongFalsely : Prop := fnExactFewestMarksRow.holds Try.pinned (OpenSpec.ofChange fnExactFewestMarksWrong)

/-- 'laws.FnExactShortestGolomb': WHATEVER THE INPUT: true; the input reads as it did. -/
def fnExactShortestGolombSpec : ChangeSpec := { name := "fnExactShortestGolomb", fn := fun _ => fun
  | [d] => { results := [.lit (.bool true)], args := [d] }
  | _ => none }
def fnExactShortestGolombRow : OpenClaim := { program := "ytemeechmemhokaa", sum := "f5c9c068b87bd949537a46ae9f61093da38116aa580c9d8617f9d15ef2308570", func := "loop.example/g00992/laws.FnExactShortestGolomb", spec := "fnExactShortestGolomb", unfollowed := true, recurses := true, apart := false }
def FnExactShortestGolombSaid : Prop := fnExactShortestGolombRow.holds Try.pinned (OpenSpec.ofChange fnExactShortestGolombSpec)

/-- ITS FALSE NEIGHBOUR: 'it returns false'. Refute it at one input. -/
def fnExactShortestGolombWrong : ChangeSpec := { name := "fnExactShortestGolomb", fn := fun _ => fun
  | [d] => { results := [.lit (.bool false)], args := [d] }
  | _ => none }
def FnExactShortestGolombWrongFalsely : Prop := fnExactShortestGolombRow.holds Try.pinned (OpenSpec.ofChange fnExactShortestGolombWrong)

/-- 'laws.FnRulers': WHATEVER THE INPUT: true; the input reads as it did. -/
def fnRulersSpec : ChangeSpec := { name := "fnRulers", fn := fun _ => fun
  | [d] => { results := [.lit (.bool true)], args := [d] }
  | _ => none }
def fnRulersRow : OpenClaim := { program := "ytemeechmemhokaa", sum := "f5c9c068b87bd949537a46ae9f61093da38116aa580c9d8617f9d15ef2308570", func := "loop.example/g00992/laws.FnRulers", spec := "fnRulers", unfollowed := true, recurses := true, apart := false }
def FnRulersSaid : Prop := fnRulersRow.holds Try.pinned (OpenSpec.ofChange fnRulersSpec)

/-- ITS FALSE NEIGHBOUR: 'it returns false'. Refute it at one input. -/
def fnRulersWrong : ChangeSpec := { name := "fnRulers", fn := fun _ => fun
  | [d] => { results := [.lit (.bool false)], args := [d] }
  | _ => none }
def FnRulersWrongFalsely : Prop := fnRulersRow.holds Try.pinned (OpenSpec.ofChange fnRulersWrong)

/- THE SECOND FORM. 'bulk': how many values and letters a reading holds, each counted each time it is reached (what is shared counts as often as it is met; a slice's spare places count too). A statement '..UptoSaid' is the law's where the arguments, and the package variables that the reading takes, are together of bulk at most 1048576: NARROWER than '..Said'. Prove '..Said' where nothing that the law and all that it calls make is longer than what came in: it says more and counts as full. Else prove '..UptoSaid'. A law counts once. -/
mutual
def uptoBulk {H : Type} : DataW H → Nat
  | .lit (.string bytes) => bytes.length + 1
  | .lit _ => 1
  | .nil => 1
  | .ptr d => uptoBulk d + 1
  | .slice elems spare => uptoBulkAll elems + uptoBulkAll spare + 1
  | .agg parts => uptoBulkAll parts + 1
  | .iface _ d => uptoBulk d + 1
  | .map entries => uptoBulkEntries entries + 1
  | .held _ => 1
def uptoBulkAll {H : Type} : List (DataW H) → Nat
  | [] => 0
  | d :: r => uptoBulk d + uptoBulkAll r
def uptoBulkEntries {H : Type} : List (Lit × DataW H) → Nat
  | [] => 0
  | x :: r => uptoBulkEntry x + uptoBulkEntries r
def uptoBulkEntry {H : Type} : Lit × DataW H → Nat
  | (.string bytes, d) => bytes.length + uptoBulk d + 1
  | (_, d) => uptoBulk d + 1
 end
def uptoSmall : (H : Type) → List (DataW H) → Bool := fun _ ds => decide (uptoBulkAll ds ≤ 1048576)
def OpenSpec.upto (s : _root_.Go.ChangeSpec) : _root_.Go.OpenSpec := { _root_.Go.OpenSpec.ofChange s with cond := some uptoSmall }

/-- 'laws.FnExactLengthsOf', WHERE WHAT IT READS IS OF BULK AT MOST 1048576: true; the input reads as it did. -/
def fnExactLengthsOfUptoRow : OpenClaim := { program := "ytemeechmemhokaa", sum := "f5c9c068b87bd949537a46ae9f61093da38116aa580c9d8617f9d15ef2308570", func := "loop.example/g00992/laws.FnExactLengthsOf", spec := "fnExactLengthsOf", recurses := true, apart := false, narrowed := true }
def FnExactLengthsOfUptoSaid : Prop := fnExactLengthsOfUptoRow.holds Try.pinned (OpenSpec.upto fnExactLengthsOfSpec)

/-- 'laws.FnExactIsGolomb', WHERE WHAT IT READS IS OF BULK AT MOST 1048576: true; the input reads as it did. -/
def fnExactIsGolombUptoRow : OpenClaim := { program := "ytemeechmemhokaa", sum := "f5c9c068b87bd949537a46ae9f61093da38116aa580c9d8617f9d15ef2308570", func := "loop.example/g00992/laws.FnExactIsGolomb", spec := "fnExactIsGolomb", recurses := true, apart := false, narrowed := true }
def FnExactIsGolombUptoSaid : Prop := fnExactIsGolombUptoRow.holds Try.pinned (OpenSpec.upto fnExactIsGolombSpec)

/-- 'laws.FnExactMeasuresAll', WHERE WHAT IT READS IS OF BULK AT MOST 1048576: true; the input reads as it did. -/
def fnExactMeasuresAllUptoRow : OpenClaim := { program := "ytemeechmemhokaa", sum := "f5c9c068b87bd949537a46ae9f61093da38116aa580c9d8617f9d15ef2308570", func := "loop.example/g00992/laws.FnExactMeasuresAll", spec := "fnExactMeasuresAll", recurses := true, apart := false, narrowed := true }
def FnExactMeasuresAllUptoSaid : Prop := fnExactMeasuresAllUptoRow.holds Try.pinned (OpenSpec.upto fnExactMeasuresAllSpec)

/-- 'laws.FnExactFewestMarks', WHERE WHAT IT READS IS OF BULK AT MOST 1048576: true; the input reads as it did. -/
def fnExactFewestMarksUptoRow : OpenClaim := { program := "ytemeechmemhokaa", sum := "f5c9c068b87bd949537a46ae9f61093da38116aa580c9d8617f9d15ef2308570", func := "loop.example/g00992/laws.FnExactFewestMarks", spec := "fnExactFewestMarks", unfollowed := true, recurses := true, apart := false, narrowed := true }
def FnExactFewestMarksUptoSaid : Prop := fnExactFewestMarksUptoRow.holds Try.pinned (OpenSpec.upto fnExactFewestMarksSpec)

/-- 'laws.FnExactShortestGolomb', WHERE WHAT IT READS IS OF BULK AT MOST 1048576: true; the input reads as it did. -/
def fnExactShortestGolombUptoRow : OpenClaim := { program := "ytemeechmemhokaa", sum := "f5c9c068b87bd949537a46ae9f61093da38116aa580c9d8617f9d15ef2308570", func := "loop.example/g00992/laws.FnExactShortestGolomb", spec := "fnExactShortestGolomb", unfollowed := true, recurses := true, apart := false, narrowed := true }
def FnExactShortestGolombUptoSaid : Prop := fnExactShortestGolombUptoRow.holds Try.pinned (OpenSpec.upto fnExactShortestGolombSpec)

/-- 'laws.FnRulers', WHERE WHAT IT READS IS OF BULK AT MOST 1048576: true; the input reads as it did. -/
def fnRulersUptoRow : OpenClaim := { program := "ytemeechmemhokaa", sum := "f5c9c068b87bd949537a46ae9f61093da38116aa580c9d8617f9d15ef2308570", func := "loop.example/g00992/laws.FnRulers", spec := "fnRulers", unfollowed := true, recurses := true, apart := false, narrowed := true }
def FnRulersUptoSaid : Prop := fnRulersUptoRow.holds Try.pinned (OpenSpec.upto fnRulersSpec)

end Rows
end Go.Proofs.Ytemeechmemhokaa
