/- The walk of laws.FnExactMakeFraction: it returns true, and nothing that was there has turned. -/
import Derived.Test.YtbppdjglmgnggaaMakeS
namespace Go.Proofs.Ytbppdjglmgnggaa
open Go.RowKit
set_option linter.unusedVariables false

theorem walkMakeFraction (a0 a1 : Int) (w : World) (w0 : -9223372036854775808 ≤ a0 ∧ a0 ≤ 9223372036854775807) (w1 : -9223372036854775808 ≤ a1 ∧ a1 ≤ 9223372036854775807) :
    Calls Try.prog 5 #[.int .i64 a0, .int .i64 a1] w fun e w' => e = .returned (.bool true) ∧ Below w.heap.size w w' := by
  go_enter Try.func5, Try.ntmps5
  go_wp2_with fail
  refine (specMake _ _ _).mono ?_
  rintro e wa ⟨rfl, ba⟩
  go_wp2_with fail
  refine (implMake _ _ _).mono ?_
  rintro e wb ⟨rfl, bb⟩
  obtain ⟨x0, x1, _, _, hs, _⟩ := pairAt (g := wa.heap.size) bb (heap_new_at rfl)
  go_wp2_with fail
  refine (eqFrac _ _ _ _ _).mono ?_
  rintro e wc ⟨rfl, bc⟩
  go_wp2
  go_ret
  exact ⟨rfl, (by repeat (first | exact Below.refl _ _ | (refine bDrewN ?_ _) | (refine Below.drew ?_) | (refine bAlloc ?_ _) | (refine Below.setCell ?_ (by first | omega | (simp <;> omega)) _) | (refine bThen ?_ (by assumption))))⟩
end Go.Proofs.Ytbppdjglmgnggaa
