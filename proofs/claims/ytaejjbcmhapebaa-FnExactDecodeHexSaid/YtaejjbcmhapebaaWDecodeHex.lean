/- The walk of laws.FnExactDecodeHex: it returns true, and nothing that was there has turned. -/
import Derived.Test.YtaejjbcmhapebaaDec
namespace Go.Proofs.Ytaejjbcmhapebaa
open Go.RowKit
set_option linter.unusedVariables false

set_option maxRecDepth 100000 in
theorem walkDecodeHex (a0 : ByteArray) (w : World) (h0 : a0.size ≤ maxLen) :
    Calls Try.prog 7 #[.string a0] w fun e w' => e = .returned (.bool true) ∧ Below w.heap.size w w' := by
  unfold maxLen at h0
  by_cases hbig : a0.size ≤ 1048576
  · have hd : (a0.size : Int) ≤ 1048576 := by omega
    go_enter Try.func7, Try.ntmps7
    go_wp2_with fail
    refine (specDec _ _ (by omega)).mono ?_
    rintro e wa ⟨rfl, ba⟩
    go_wp2_with fail
    refine (implDec _ _ (by omega)).mono ?_
    rintro e wb ⟨rfl, bb⟩
    go_wp2
    go_ret
    exact ⟨rfl, (by repeat (first | exact Below.refl _ _ | (refine bDrewN ?_ _) | (refine Below.drew ?_) | (refine bAlloc ?_ _) | (refine Below.setCell ?_ (by first | omega | (simp <;> omega)) _) | (refine bThen ?_ (by assumption))))⟩
  · have hd : (1048576 : Int) < (a0.size : Int) := by omega
    go_enter Try.func7, Try.ntmps7
    go_wp2
    go_ret
    exact ⟨rfl, Below.refl _ _⟩
end Go.Proofs.Ytaejjbcmhapebaa
