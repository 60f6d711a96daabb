/- Contract of laws.big. No conditions. -/
import Derived.Test.YtemeechmemhokaaRows
import Derived.Test.YtemeechmemhokaaPre
import Derived.WalkSpells
namespace Go.Proofs.Ytemeechmemhokaa
open Go.RowKit

theorem lawsBig {w : World} {a : Option Addr} {len cap : Nat} : Calls Try.prog 23 #[.slice a len cap] w fun e w' => e = .returned (.bool (decide (1048576 < len))) ∧ w = w' := by
  go_enter Try.func23, Try.ntmps23
  go_wp2
  go_ret
  exact ⟨ret_bool (by rw [decide_eq_decide]; omega), rfl⟩

end Go.Proofs.Ytemeechmemhokaa
