/-
  No cell of these rows narrows 'for every input' (looked for: loops, veiled, ifaces, maps, wideKeys, modest, calm, conditions, laid).
  DERIVED. THE GIVEN ROWS OF THIS SEAT. 4 by the template 'for every input the law returns true; each argument reads behind the call as it read before'; 0 by the template 'total and deterministic' (their statements: YthbhappegepmdaaTotals.lean).
  GIVEN WITH THE SEED: the statements are not yours to turn. If you find one false, say at which input.
  Laid BY PROGRAM, IN A SANDBOX (cutbox-rows.mjs): the forced cells as the released guide's own fill.sh prints them over the translation 6f8fe6e3cb6bcf47… (all of the seat's roots in one cut). By AI agents, Wed Nov 11 2026. No macro, syntax, notation, axiom, sorry.
-/
import Derived.Test.YthbhappegepmdaaChecked
import GoSem.Claim
import GoSem.ClaimJoined
import GoSem.ClaimMapViews
import Derived.JoinedTies
import Derived.KernelRfl
namespace Go.Proofs.Ythbhappegepmdaa
/- THE CELL 'sum', in the pinned program and in every row, IS THE sha256 OF THE DUMP (.gsa) THAT YthbhappegepmdaaProg.lean LOADS. Nothing in Lean hashes anything: it is a label: what it is worth is what the hold of that sum in a sandbox is worth. -/
noncomputable def Try.pinned : Pinned := { name := "ythbhappegepmdaa", sum := "6f8fe6e3cb6bcf47d7a7a72ddd8a81eca0cf5ef197f58bf45f8fe9c88e9d554e", checked := Try.checked }
namespace Rows
def none {H : Type} : Left H := { results := [], args := [] }

/-- 'laws.FnExactRulerOk': WHATEVER THE INPUT: true; the input reads as it did. -/
def fnExactRulerOkSpec : ChangeSpec := { name := "fnExactRulerOk", fn := fun _ => fun
  | [d] => { results := [.lit (.bool true)], args := [d] }
  | _ => none }
def fnExactRulerOkRow : OpenClaim := { program := "ythbhappegepmdaa", sum := "6f8fe6e3cb6bcf47d7a7a72ddd8a81eca0cf5ef197f58bf45f8fe9c88e9d554e", func := "loop.example/g00992/laws.FnExactRulerOk", spec := "fnExactRulerOk", apart := false }
def FnExactRulerOkSaid : Prop := fnExactRulerOkRow.holds Try.pinned (OpenSpec.ofChange fnExactRulerOkSpec)

/-- ITS FALSE NEIGHBOUR: 'it returns false'. Refute it at one input. -/
def fnExactRulerOkWrong : ChangeSpec := { name := "fnExactRulerOk", fn := fun _ => fun
  | [d] => { results := [.lit (.bool false)], args := [d] }
  | _ => none }
def FnExactRulerOkWrongFalsely : Prop := fnExactRulerOkRow.holds Try.pinned (OpenSpec.ofChange fnExactRulerOkWrong)

/-- 'laws.FnExactMirrorRuler': WHATEVER THE INPUT: true; the input reads as it did. -/
def fnExactMirrorRulerSpec : ChangeSpec := { name := "fnExactMirrorRuler", fn := fun _ => fun
  | [d] => { results := [.lit (.bool true)], args := [d] }
  | _ => none }
def fnExactMirrorRulerRow : OpenClaim := { program := "ythbhappegepmdaa", sum := "6f8fe6e3cb6bcf47d7a7a72ddd8a81eca0cf5ef197f58bf45f8fe9c88e9d554e", func := "loop.example/g00992/laws.FnExactMirrorRuler", spec := "fnExactMirrorRuler", apart := false }
def FnExactMirrorRulerSaid : Prop := fnExactMirrorRulerRow.holds Try.pinned (OpenSpec.ofChange fnExactMirrorRulerSpec)

/-- ITS FALSE NEIGHBOUR: 'it returns false'. Refute it at one input. -/
def fnExactMirrorRulerWrong : ChangeSpec := { name := "fnExactMirrorRuler", fn := fun _ => fun
  | [d] => { results := [.lit (.bool false)], args := [d] }
  | _ => none }
def FnExactMirrorRulerWrongFalsely : Prop := fnExactMirrorRulerRow.holds Try.pinned (OpenSpec.ofChange fnExactMirrorRulerWrong)

/-- 'laws.FnExactSystemOk': WHATEVER THE INPUT: true; the input reads as it did. -/
def fnExactSystemOkSpec : ChangeSpec := { name := "fnExactSystemOk", fn := fun _ => fun
  | [d] => { results := [.lit (.bool true)], args := [d] }
  | _ => none }
def fnExactSystemOkRow : OpenClaim := { program := "ythbhappegepmdaa", sum := "6f8fe6e3cb6bcf47d7a7a72ddd8a81eca0cf5ef197f58bf45f8fe9c88e9d554e", func := "loop.example/g00992/laws.FnExactSystemOk", spec := "fnExactSystemOk", apart := false }
def FnExactSystemOkSaid : Prop := fnExactSystemOkRow.holds Try.pinned (OpenSpec.ofChange fnExactSystemOkSpec)

/-- ITS FALSE NEIGHBOUR: 'it returns false'. Refute it at one input. -/
def fnExactSystemOkWrong : ChangeSpec := { name := "fnExactSystemOk", fn := fun _ => fun
  | [d] => { results := [.lit (.bool false)], args := [d] }
  | _ => none }
def FnExactSystemOkWrongFalsely : Prop := fnExactSystemOkRow.holds Try.pinned (OpenSpec.ofChange fnExactSystemOkWrong)

/-- 'laws.FnExactCountChange': WHATEVER THE INPUT: true; the input reads as it did. -/
def fnExactCountChangeSpec : ChangeSpec := { name := "fnExactCountChange", fn := fun _ => fun
  | [d1, d2] => { results := [.lit (.bool true)], args := [d1, d2] }
  | _ => none }
def fnExactCountChangeRow : OpenClaim := { program := "ythbhappegepmdaa", sum := "6f8fe6e3cb6bcf47d7a7a72ddd8a81eca0cf5ef197f58bf45f8fe9c88e9d554e", func := "loop.example/g00992/laws.FnExactCountChange", spec := "fnExactCountChange", apart := false }
def FnExactCountChangeSaid : Prop := fnExactCountChangeRow.holds Try.pinned (OpenSpec.ofChange fnExactCountChangeSpec)

/-- ITS FALSE NEIGHBOUR: 'it returns false'. Refute it at one input. -/
def fnExactCountChangeWrong : ChangeSpec := { name := "fnExactCountChange", fn := fun _ => fun
  | [d1, d2] => { results := [.lit (.bool false)], args := [d1, d2] }
  | _ => none }
def FnExactCountChangeWrongFalsely : Prop := fnExactCountChangeRow.holds Try.pinned (OpenSpec.ofChange fnExactCountChangeWrong)

/- THE SECOND FORM. 'bulk': how many values and letters a reading holds, each counted each time it is reached (what is shared counts as often as it is met; a slice's spare places count too). A statement '..UptoSaid' is the law's where the arguments, and the package variables that the reading takes, are together of bulk at most 1048576: NARROWER than '..Said'. Prove '..Said' where nothing that the law and all that it calls make is longer than what came in: it says more and counts as full. Else prove '..UptoSaid'. A law counts once. -/
mutual
def uptoBulk {H : Type} : DataW H → Nat
  | .lit (.string bytes) => bytes.length + 1
  | .lit _ => 1
  | .nil => 1
  | .ptr d => uptoBulk d + 1
  | .slice elems spare => uptoBulkAll elems + uptoBulkAll spare + 1
  | .agg parts => uptoBulkAll parts + 1
  | .iface _ d => uptoBulk d + 1
  | .map entries => uptoBulkEntries entries + 1
  | .held _ => 1
def uptoBulkAll {H : Type} : List (DataW H) → Nat
  | [] => 0
  | d :: r => uptoBulk d + uptoBulkAll r
def uptoBulkEntries {H : Type} : List (Lit × DataW H) → Nat
  | [] => 0
  | x :: r => uptoBulkEntry x + uptoBulkEntries r
def uptoBulkEntry {H : Type} : Lit × DataW H → Nat
  | (.string bytes, d) => bytes.length + uptoBulk d + 1
  | (_, d) => uptoBulk d + 1
 end
def uptoSmall : (H : Type) → List (DataW H) → Bool := fun _ ds => decide (uptoBulkAll ds ≤ 1048576)
def OpenSpec.upto (s : _root_.Go.ChangeSpec) : _root_.Go.OpenSpec := { _root_.Go.OpenSpec.ofChange s with cond := some uptoSmall }

/-- 'laws.FnExactRulerOk', WHERE WHAT IT READS IS OF BULK AT MOST 1048576: true; the input reads as it did. -/
def fnExactRulerOkUptoRow : OpenClaim := { program := "ythbhappegepmdaa", sum := "6f8fe6e3cb6bcf47d7a7a72ddd8a81eca0cf5ef197f58bf45f8fe9c88e9d554e", func := "loop.example/g00992/laws.FnExactRulerOk", spec := "fnExactRulerOk", apart := false, narrowed := true }
def FnExactRulerOkUptoSaid : Prop := fnExactRulerOkUptoRow.holds Try.pinned (OpenSpec.upto fnExactRulerOkSpec)

/-- 'laws.FnExactMirrorRuler', WHERE WHAT IT READS IS OF BULK AT MOST 1048576: true; the input reads as it did. -/
def fnExactMirrorRulerUptoRow : OpenClaim := { program := "ythbhappegepmdaa", sum := "6f8fe6e3cb6bcf47d7a7a72ddd8a81eca0cf5ef197f58bf45f8fe9c88e9d554e", func := "loop.example/g00992/laws.FnExactMirrorRuler", spec := "fnExactMirrorRuler", apart := false, narrowed := true }
def FnExactMirrorRulerUptoSaid : Prop := fnExactMirrorRulerUptoRow.holds Try.pinned (OpenSpec.upto fnExactMirrorRulerSpec)

/-- 'laws.FnExactSystemOk', WHERE WHAT IT READS IS OF BULK AT MOST 1048576: true; the input reads as it did. -/
def fnExactSystemOkUptoRow : OpenClaim := { program := "ythbhappegepmdaa", sum := "6f8fe6e3cb6bcf47d7a7a72ddd8a81eca0cf5ef197f58bf45f8fe9c88e9d554e", func := "loop.example/g00992/laws.FnExactSystemOk", spec := "fnExactSystemOk", apart := false, narrowed := true }
def FnExactSystemOkUptoSaid : Prop := fnExactSystemOkUptoRow.holds Try.pinned (OpenSpec.upto fnExactSystemOkSpec)

/-- 'laws.FnExactCountChange', WHERE WHAT IT READS IS OF BULK AT MOST 1048576: true; the input reads as it did. -/
def fnExactCountChangeUptoRow : OpenClaim := { program := "ythbhappegepmdaa", sum := "6f8fe6e3cb6bcf47d7a7a72ddd8a81eca0cf5ef197f58bf45f8fe9c88e9d554e", func := "loop.example/g00992/laws.FnExactCountChange", spec := "fnExactCountChange", apart := false, narrowed := true }
def FnExactCountChangeUptoSaid : Prop := fnExactCountChangeUptoRow.holds Try.pinned (OpenSpec.upto fnExactCountChangeSpec)

end Rows
end Go.Proofs.Ythbhappegepmdaa
