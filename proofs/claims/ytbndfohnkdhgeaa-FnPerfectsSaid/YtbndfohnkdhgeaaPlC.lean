/- The same perfect lists, of 23 and 24. -/
import Derived.Test.YtbndfohnkdhgeaaPl
namespace Go.Proofs.Ytbndfohnkdhgeaa
set_option maxHeartbeats 0 in
theorem per_c : perI 25 [] 23 = perS 25 23 [] 0 ∧ perI 25 [] 24 = perS 25 24 [] 0 := by decide +kernel
end Go.Proofs.Ytbndfohnkdhgeaa
