/- Contract of laws.big. No conditions. -/
import Derived.Test.YtbndfohnkdhgeaaRows
import Derived.Test.YtbndfohnkdhgeaaPre
import Derived.WalkSpells
namespace Go.Proofs.Ytbndfohnkdhgeaa
open Go.RowKit

theorem lawsBig {w : World} {a : Option Addr} {len cap : Nat} : Calls Try.prog 30 #[.slice a len cap] w fun e w' => e = .returned (.bool (decide (1048576 < len))) ∧ w = w' := by
  go_enter Try.func30, Try.ntmps30
  go_wp2
  go_ret
  exact ⟨ret_bool (by rw [decide_eq_decide]; omega), rfl⟩

end Go.Proofs.Ytbndfohnkdhgeaa
