/- The same perfect lists, of 20 to 22. -/
import Derived.Test.YtbndfohnkdhgeaaPl
namespace Go.Proofs.Ytbndfohnkdhgeaa
set_option maxHeartbeats 0 in
theorem per_b : perI 25 [] 20 = perS 25 20 [] 0 ∧ perI 25 [] 21 = perS 25 21 [] 0 ∧ perI 25 [] 22 = perS 25 22 [] 0 := by decide +kernel
end Go.Proofs.Ytbndfohnkdhgeaa
