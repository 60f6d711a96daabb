/- The walk of laws.FnExactMeasuresAll: it returns true, and nothing that was there has turned. -/
import Derived.Test.YtemeechmemhokaaGolI
import Derived.Test.YtemeechmemhokaaGolS
namespace Go.Proofs.Ytemeechmemhokaa
open Go.RowKit
set_option linter.unusedVariables false

theorem walkMeasuresAll (a0 : Option Addr) (len0 cap0 : Nat) (z0 : List Int) (w : World) (hr0 : IsRow .i64 w a0 len0 cap0 z0) :
    Calls Try.prog 5 #[.slice a0 len0 cap0] w fun e w' => e = .returned (.bool true) ∧ Below w.heap.size w w' := by
  by_cases hbig : 1048576 < len0
  · go_enter Try.func5, Try.ntmps5
    go_wp2
    go_ret
    exact ⟨rfl, Below.refl _ _⟩
  · have hl0 : len0 ≤ 1048576 := by omega
    clear hbig
    go_enter Try.func5, Try.ntmps5
    go_wp2_with fail
    refine (toIntS_any hr0 hl0).mono ?_
    rintro e w1x ⟨v1, rfl, h1, b1⟩
    have BASEv1 := Nat.le_refl w.heap.size
    have bb1 := b1
    go_wp2_with fail
    refine (specMeasures h1).mono ?_
    rintro e w2x ⟨rfl, b2⟩
    have h1 := h1.stay b2
    have bb2 := bThen bb1 b2
    go_wp2_with fail
    refine (toIntS_any (hr0.below bb2) hl0).mono ?_
    rintro e w3x ⟨v3, rfl, h3, b3⟩
    have Av1_v3 := apart_new h1 h3
    have BASEv3 := bb2.size
    have h1 := h1.stay b3
    have bb3 := bThen bb2 b3
    go_wp2_with fail
    refine (implMeasures h3).mono ?_
    rintro e w4x ⟨rfl, b4⟩
    have h1 := h1.stay b4
    have h3 := h3.stay b4
    have bb4 := bThen bb3 b4
    go_wp2_with fail
    refine (toIntS_any (hr0.below bb4) hl0).mono ?_
    rintro e w5x ⟨v5, rfl, h5, b5⟩
    have Av1_v5 := apart_new h1 h5
    have Av3_v5 := apart_new h3 h5
    have BASEv5 := bb4.size
    have h1 := h1.stay b5
    have h3 := h3.stay b5
    have bb5 := bThen bb4 b5
    go_wp2_with fail
    refine (eqIntS_any h3 h5).mono ?_
    rintro e w' ⟨rfl, n1, rfl⟩
    have bb6 := bDrewN bb5 n1
    have h1q := h1.drewN n1
    have h3q := h3.drewN n1
    have h5q := h5.drewN n1
    go_wp2
    go_ret
    exact ⟨rfl, bb6⟩
end Go.Proofs.Ytemeechmemhokaa
