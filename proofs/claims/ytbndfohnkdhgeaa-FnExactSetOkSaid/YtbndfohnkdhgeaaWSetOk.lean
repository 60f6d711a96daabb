/- The walk of laws.FnExactSetOk: it returns true, and nothing that was there has turned. -/
import Derived.Test.YtbndfohnkdhgeaaSet
namespace Go.Proofs.Ytbndfohnkdhgeaa
open Go.RowKit
set_option linter.unusedVariables false

theorem walkSetOk (a0 : Option Addr) (len0 cap0 : Nat) (z0 : List Int) (w : World) (hr0 : IsRow .i64 w a0 len0 cap0 z0) :
    Calls Try.prog 3 #[.slice a0 len0 cap0] w fun e w' => e = .returned (.bool true) ∧ Below w.heap.size w w' := by
  by_cases hbig : 1048576 < len0
  · go_enter Try.func3, Try.ntmps3
    go_wp2
    go_ret
    exact ⟨rfl, Below.refl _ _⟩
  · have hl0 : len0 ≤ 1048576 := by omega
    clear hbig
    go_enter Try.func3, Try.ntmps3
    go_wp2_with fail
    refine (toIntS_any hr0 hl0).mono ?_
    rintro e w1x ⟨v1, rfl, h1, b1⟩
    have BASEv1 := Nat.le_refl w.heap.size
    have bb1 := b1
    go_wp2_with fail
    refine (specSetOk h1).mono ?_
    rintro e w' ⟨rfl, n1, rfl⟩
    have bb2 := bDrewN bb1 n1
    have h1q := h1.drewN n1
    go_wp2_with fail
    refine (toIntS_any (hr0.below bb2) hl0).mono ?_
    rintro e w2x ⟨v3, rfl, h3, b3⟩
    have Av1_v3 := apart_new h1q h3
    have BASEv3 := bb2.size
    have h1q := h1q.stay b3
    have bb3 := bThen bb2 b3
    go_wp2_with fail
    refine (implSetOk h3).mono ?_
    rintro e w' ⟨rfl, n2, rfl⟩
    have bb4 := bDrewN bb3 n2
    have h1qq := h1q.drewN n2
    have h3q := h3.drewN n2
    go_wp2_with fail
    refine (toIntS_any (hr0.below bb4) hl0).mono ?_
    rintro e w3x ⟨v5, rfl, h5, b5⟩
    have Av1_v5 := apart_new h1qq h5
    have Av3_v5 := apart_new h3q h5
    have BASEv5 := bb4.size
    have h1qq := h1qq.stay b5
    have h3q := h3q.stay b5
    have bb5 := bThen bb4 b5
    go_wp2_with fail
    refine (eqIntS_any h3q h5).mono ?_
    rintro e w' ⟨rfl, n3, rfl⟩
    have bb6 := bDrewN bb5 n3
    have h1qqq := h1qq.drewN n3
    have h3qq := h3q.drewN n3
    have h5q := h5.drewN n3
    go_wp2
    go_ret
    exact ⟨rfl, bb6⟩
end Go.Proofs.Ytbndfohnkdhgeaa
