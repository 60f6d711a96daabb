/- The walk of laws.FnExactWeigh: it returns true, and nothing that was there has turned. -/
import Derived.Test.YtfbecjeogbjnpaaWeigh
namespace Go.Proofs.Ytfbecjeogbjnpaa
open Go.RowKit
set_option linter.unusedVariables false

theorem walkWeigh (a0 : Option Addr) (len0 cap0 : Nat) (z0 : List Int) (a1 : Option Addr) (len1 cap1 : Nat) (z1 : List Int) (w : World) (hr0 : IsRow .i64 w a0 len0 cap0 z0) (hr1 : IsRow .i64 w a1 len1 cap1 z1) :
    Calls Try.prog 8 #[.slice a0 len0 cap0, .slice a1 len1 cap1] w fun e w' => e = .returned (.bool true) ∧ Below w.heap.size w w' := by
  by_cases hbig : 1048576 < len0
  · go_enter Try.func8, Try.ntmps8
    go_wp2
    go_ret
    exact ⟨rfl, Below.refl _ _⟩
  · have hl0 : len0 ≤ 1048576 := by omega
    clear hbig
    by_cases hbig : 1048576 < len1
    · go_enter Try.func8, Try.ntmps8
      go_wp2
      go_ret
      exact ⟨rfl, Below.refl _ _⟩
    · have hl1 : len1 ≤ 1048576 := by omega
      clear hbig
      go_enter Try.func8, Try.ntmps8
      go_wp2_with fail
      refine (toIntS_any hr0 hl0).mono ?_
      rintro e w1x ⟨v1, rfl, h1, b1⟩
      have BASEv1 := Nat.le_refl w.heap.size
      have bb1 := b1
      go_wp2_with fail
      refine (toIntS_any (hr1.below bb1) hl1).mono ?_
      rintro e w2x ⟨v2, rfl, h2, b2⟩
      have Av1_v2 := apart_new h1 h2
      have BASEv2 := bb1.size
      have h1 := h1.stay b2
      have bb2 := bThen bb1 b2
      go_wp2_with fail
      refine (specWeigh h1 h2).mono ?_
      rintro e w' ⟨rfl, n1, rfl⟩
      have bb3 := bDrewN bb2 n1
      have h1 := h1.drewN n1
      have h2 := h2.drewN n1
      go_wp2_with fail
      refine (toIntS_any (hr0.below bb3) hl0).mono ?_
      rintro e w3x ⟨v4, rfl, h4, b4⟩
      have Av1_v4 := apart_new h1 h4
      have Av2_v4 := apart_new h2 h4
      have BASEv4 := bb3.size
      have h1 := h1.stay b4
      have h2 := h2.stay b4
      have bb4 := bThen bb3 b4
      go_wp2_with fail
      refine (toIntS_any (hr1.below bb4) hl1).mono ?_
      rintro e w4x ⟨v5, rfl, h5, b5⟩
      have Av1_v5 := apart_new h1 h5
      have Av2_v5 := apart_new h2 h5
      have Av4_v5 := apart_new h4 h5
      have BASEv5 := bb4.size
      have h1 := h1.stay b5
      have h2 := h2.stay b5
      have h4 := h4.stay b5
      have bb5 := bThen bb4 b5
      go_wp2_with fail
      refine (implWeigh h4 h5).mono ?_
      rintro e w' ⟨rfl, rfl⟩
      go_wp2_with fail
      refine (toIntS_any (hr0.below bb5) hl0).mono ?_
      rintro e w5x ⟨v6, rfl, h6, b6⟩
      have Av1_v6 := apart_new h1 h6
      have Av2_v6 := apart_new h2 h6
      have Av4_v6 := apart_new h4 h6
      have Av5_v6 := apart_new h5 h6
      have BASEv6 := bb5.size
      have h1 := h1.stay b6
      have h2 := h2.stay b6
      have h4 := h4.stay b6
      have h5 := h5.stay b6
      have bb6 := bThen bb5 b6
      go_wp2_with fail
      refine (eqIntS_any h4 h6).mono ?_
      rintro e w' ⟨rfl, n2, rfl⟩
      have bb7 := bDrewN bb6 n2
      have h1 := h1.drewN n2
      have h2 := h2.drewN n2
      have h4 := h4.drewN n2
      have h5 := h5.drewN n2
      have h6 := h6.drewN n2
      go_wp2_with fail
      refine (toIntS_any (hr1.below bb7) hl1).mono ?_
      rintro e w6x ⟨v8, rfl, h8, b8⟩
      have Av1_v8 := apart_new h1 h8
      have Av2_v8 := apart_new h2 h8
      have Av4_v8 := apart_new h4 h8
      have Av5_v8 := apart_new h5 h8
      have Av6_v8 := apart_new h6 h8
      have BASEv8 := bb7.size
      have h1 := h1.stay b8
      have h2 := h2.stay b8
      have h4 := h4.stay b8
      have h5 := h5.stay b8
      have h6 := h6.stay b8
      have bb8 := bThen bb7 b8
      go_wp2_with fail
      refine (eqIntS_any h5 h8).mono ?_
      rintro e w' ⟨rfl, n3, rfl⟩
      have bb9 := bDrewN bb8 n3
      have h1 := h1.drewN n3
      have h2 := h2.drewN n3
      have h4 := h4.drewN n3
      have h5 := h5.drewN n3
      have h6 := h6.drewN n3
      have h8 := h8.drewN n3
      go_wp2
      go_ret
      exact ⟨rfl, bb9⟩
end Go.Proofs.Ytfbecjeogbjnpaa
