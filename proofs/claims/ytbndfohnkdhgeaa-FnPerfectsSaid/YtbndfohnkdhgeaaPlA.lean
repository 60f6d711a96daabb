/- The same perfect lists, up to 19. -/
import Derived.Test.YtbndfohnkdhgeaaPl
namespace Go.Proofs.Ytbndfohnkdhgeaa
set_option maxHeartbeats 0 in
theorem per_a : ∀ n, n < 20 → perI 25 [] n = perS 25 n [] 0 := by decide +kernel
end Go.Proofs.Ytbndfohnkdhgeaa
