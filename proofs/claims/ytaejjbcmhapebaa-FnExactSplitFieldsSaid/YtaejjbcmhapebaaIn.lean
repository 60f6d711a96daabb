/- Contracts of impl.in and spec.l01In: whether a number is in a range. No conditions. -/
import Derived.Test.YtaejjbcmhapebaaRows
import Derived.Test.YtaejjbcmhapebaaPre
import Derived.WalkSpells
namespace Go.Proofs.Ytaejjbcmhapebaa
open Go.RowKit

def inB (n a b : Int) : Bool := decide (a ≤ n) && decide (n ≤ b)
theorem inB_iff {n a b : Int} : inB n a b = true ↔ a ≤ n ∧ n ≤ b := by simp [inB]
theorem inB_not {n a b : Int} : inB n a b = false ↔ ¬ (a ≤ n ∧ n ≤ b) := by rw [← inB_iff]; simp

end Go.Proofs.Ytaejjbcmhapebaa
