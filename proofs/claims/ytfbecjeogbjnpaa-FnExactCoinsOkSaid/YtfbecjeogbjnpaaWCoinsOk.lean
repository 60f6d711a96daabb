/- The walk of laws.FnExactCoinsOk. -/
import Derived.Test.YtfbecjeogbjnpaaBal
namespace Go.Proofs.Ytfbecjeogbjnpaa
open Go.RowKit

theorem walkCoinsOk (a : Option Addr) (len cap : Nat) (zs : List Int) (w : World) (hr : IsRow .i64 w a len cap zs) :
    Calls Try.prog 3 #[.slice a len cap] w fun e w' => e = .returned (.bool true) ∧ Below w.heap.size w w' := by
  by_cases hbig : 1048576 < len
  · go_enter Try.func3, Try.ntmps3
    go_wp2
    go_ret
    exact ⟨rfl, Below.refl _ _⟩
  · have hl : len ≤ 1048576 := by omega
    go_enter Try.func3, Try.ntmps3
    go_wp2_with fail
    refine (toIntS_any hr hl).mono ?_
    rintro e w1 ⟨v1, rfl, h1, b1⟩
    go_wp2_with fail
    refine (specCoinsOk h1).mono ?_
    rintro e w' ⟨rfl, rfl⟩
    go_wp2_with fail
    refine (toIntS_any (hr.below b1) hl).mono ?_
    rintro e w2 ⟨v2, rfl, h2, b2⟩
    go_wp2_with fail
    refine (implCoinsOk h2).mono ?_
    rintro e w' ⟨rfl, rfl⟩
    go_wp2_with fail
    refine (toIntS_any ((hr.below b1).below b2) hl).mono ?_
    rintro e w3 ⟨v3, rfl, h3, b3⟩
    go_wp2_with fail
    refine (eqIntS_any (h2.stay b3) h3).mono ?_
    rintro e w' ⟨rfl, n, rfl⟩
    go_wp2
    go_ret
    exact ⟨rfl, bDrewN (bThen (bThen b1 b2) b3) _⟩
end Go.Proofs.Ytfbecjeogbjnpaa
