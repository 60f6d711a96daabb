/- Contract of laws.big. No conditions. -/
import Derived.Test.YthonlkconobdfaaDoorRows
import Derived.Test.YthonlkconobdfaaDoorPre
import Derived.WalkSpells
namespace Go.Proofs.YthonlkconobdfaaDoor
open Go.RowKit

theorem lawsBig {w : World} {a : Option Addr} {len cap : Nat} : Calls Tryd.prog 14 #[.slice a len cap] w fun e w' => e = .returned (.bool (decide (1048576 < len))) ∧ w = w' := by
  go_enter Tryd.func14, Tryd.ntmps14
  go_wp2
  go_ret
  exact ⟨ret_bool (by rw [decide_eq_decide]; omega), rfl⟩

end Go.Proofs.YthonlkconobdfaaDoor
