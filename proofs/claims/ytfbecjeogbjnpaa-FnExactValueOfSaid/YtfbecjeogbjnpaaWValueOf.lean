/- The walk of laws.FnExactValueOf: it returns true, and nothing that was there has turned. -/
import Derived.Test.YtfbecjeogbjnpaaVal
namespace Go.Proofs.Ytfbecjeogbjnpaa
open Go.RowKit
set_option linter.unusedVariables false

theorem walkValueOf (a0 : Option Addr) (len0 cap0 : Nat) (z0 : List Int) (w : World) (hr0 : IsRow .i64 w a0 len0 cap0 z0) :
    Calls Try.prog 11 #[.slice a0 len0 cap0] w fun e w' => e = .returned (.bool true) ∧ Below w.heap.size w w' := by
  by_cases hbig : 1048576 < len0
  · go_enter Try.func11, Try.ntmps11
    go_wp2
    go_ret
    exact ⟨rfl, Below.refl _ _⟩
  · have hl0 : len0 ≤ 1048576 := by omega
    clear hbig
    go_enter Try.func11, Try.ntmps11
    go_wp2_with fail
    refine (toIntS_any hr0 hl0).mono ?_
    rintro e w1x ⟨v1, rfl, h1, b1⟩
    have BASEv1 := Nat.le_refl w.heap.size
    have bb1 := b1
    go_wp2_with fail
    refine (specValueOf h1).mono ?_
    rintro e w' ⟨rfl, rfl⟩
    go_wp2_with fail
    refine (toIntS_any (hr0.below bb1) hl0).mono ?_
    rintro e w2x ⟨v2, rfl, h2, b2⟩
    have Av1_v2 := apart_new h1 h2
    have BASEv2 := bb1.size
    have h1 := h1.stay b2
    have bb2 := bThen bb1 b2
    go_wp2_with fail
    refine (implValueOf h2).mono ?_
    rintro e w' ⟨rfl, rfl⟩
    go_wp2_with fail
    refine (toIntS_any (hr0.below bb2) hl0).mono ?_
    rintro e w3x ⟨v3, rfl, h3, b3⟩
    have Av1_v3 := apart_new h1 h3
    have Av2_v3 := apart_new h2 h3
    have BASEv3 := bb2.size
    have h1 := h1.stay b3
    have h2 := h2.stay b3
    have bb3 := bThen bb2 b3
    go_wp2_with fail
    refine (eqIntS_any h2 h3).mono ?_
    rintro e w' ⟨rfl, n1, rfl⟩
    have bb4 := bDrewN bb3 n1
    have h1 := h1.drewN n1
    have h2 := h2.drewN n1
    have h3 := h3.drewN n1
    go_wp2
    go_ret
    exact ⟨rfl, bb4⟩
end Go.Proofs.Ytfbecjeogbjnpaa
