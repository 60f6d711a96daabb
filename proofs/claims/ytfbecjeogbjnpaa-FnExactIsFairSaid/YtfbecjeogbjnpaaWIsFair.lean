/- The walk of laws.FnExactIsFair: it returns true, and nothing that was there has turned. -/
import Derived.Test.YtfbecjeogbjnpaaBal
import Derived.Test.YtfbecjeogbjnpaaCount
namespace Go.Proofs.Ytfbecjeogbjnpaa
open Go.RowKit
set_option linter.unusedVariables false

theorem walkIsFair (a0 : Int) (a1 : Option Addr) (len1 cap1 : Nat) (z1 : List Int) (w : World) (w0 : -9223372036854775808 ≤ a0 ∧ a0 ≤ 9223372036854775807) (hr1 : IsRow .i64 w a1 len1 cap1 z1) :
    Calls Try.prog 7 #[.int .i64 a0, .slice a1 len1 cap1] w fun e w' => e = .returned (.bool true) ∧ Below w.heap.size w w' := by
  by_cases hbig : 1048576 < len1
  · go_enter Try.func7, Try.ntmps7
    go_wp2
    go_ret
    exact ⟨rfl, Below.refl _ _⟩
  · have hl1 : len1 ≤ 1048576 := by omega
    clear hbig
    go_enter Try.func7, Try.ntmps7
    go_wp2_with fail
    refine (toIntS_any hr1 hl1).mono ?_
    rintro e w1x ⟨v1, rfl, h1, b1⟩
    have BASEv1 := Nat.le_refl w.heap.size
    have bb1 := b1
    go_wp2_with fail
    refine (specIsFair h1).mono ?_
    rintro e w' ⟨rfl, rfl⟩
    go_wp2_with fail
    refine (toIntS_any (hr1.below bb1) hl1).mono ?_
    have Dv1_v2 := h1.ltD
    rintro e w2x ⟨v2, rfl, h2, b2⟩
    have BASEv2 := bb1.size
    have h1 := h1.stay b2
    have bb2 := bThen bb1 b2
    go_wp2_with fail
    refine (implIsFair h2).mono ?_
    rintro e w' ⟨rfl, rfl⟩
    go_wp2_with fail
    refine (toIntS_any (hr1.below bb2) hl1).mono ?_
    have Dv1_v3 := h1.ltD
    have Dv2_v3 := h2.ltD
    rintro e w3x ⟨v3, rfl, h3, b3⟩
    have BASEv3 := bb2.size
    have h1 := h1.stay b3
    have h2 := h2.stay b3
    have bb3 := bThen bb2 b3
    go_wp2_with fail
    refine (eqIntS_any h2 h3).mono ?_
    rintro e w' ⟨rfl, n1, rfl⟩
    have bb4 := bDrewN bb3 n1
    have h1 := h1.drewN n1
    have h2 := h2.drewN n1
    have h3 := h3.drewN n1
    go_wp2
    go_ret
    exact ⟨rfl, bb4⟩
end Go.Proofs.Ytfbecjeogbjnpaa
