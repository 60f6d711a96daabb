/- Contract of laws.big. No conditions. -/
import Derived.Test.YtaejjbcmhapebaaRows
import Derived.Test.YtaejjbcmhapebaaPre
import Derived.WalkSpells
namespace Go.Proofs.Ytaejjbcmhapebaa
open Go.RowKit

theorem lawsBig {w : World} {a : Option Addr} {len cap : Nat} : Calls Try.prog 11 #[.slice a len cap] w fun e w' => e = .returned (.bool (decide (1048576 < len))) ∧ w = w' := by
  go_enter Try.func11, Try.ntmps11
  go_wp2
  go_ret
  exact ⟨ret_bool (by rw [decide_eq_decide]; omega), rfl⟩

end Go.Proofs.Ytaejjbcmhapebaa
